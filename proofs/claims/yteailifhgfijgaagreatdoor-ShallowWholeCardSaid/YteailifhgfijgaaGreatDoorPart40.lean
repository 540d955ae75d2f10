/- A part of the proof: Se, Sf, Sg. -/
import Derived.Test.YteailifhgfijgaaGreatDoorPart39
set_option linter.unusedVariables false
set_option linter.unusedSimpArgs false
namespace Go.Proofs.Tryz
open Go Go.Sym Go.Graft
set_option maxRecDepth 20000
theorem cGone (nl nc nf : Bool) (l : List It) (cuts fr0 : List Str) (hs : l.length ≤ 1000000) (hc : cuts.length ≤ 1000000000) (hf : fr0.length ≤ 1000000000) (hnf : nf = true → fr0 = []) (H K : List Str) (hR : IsReach l cuts fr0 H K) :
  Ctr prog 80 [stPV nl l, .sl nc 1 (cuts.map fun x => sV x), .sl nf 1 (fr0.map fun x => sV x)] [] (.tup [.sl H.isEmpty 1 (H.map fun x => sV x), .sl K.isEmpty 1 (K.map fun x => sV x)]) [] [] := by
 have hlen := seenN_len cuts
 have hend := fun x => seenN_val cuts x cuts.length (Nat.le_refl _)
 rw [List.take_length] at hend
 have c1 := cCloneS nf (fr0.map fun x => sV x) (by intro h; rw [hnf h]; rfl) (plainL_map _ (fun _ => rfl) _) (cellsOk_map _ (fun _ => rfl) _) (by rw [List.length_map]; omega)
 rw [List.length_map] at c1
 have hW := toCome_le l cuts [] l
 refine Ctr.enter tblOk func80 rfl (by decide) rfl (nt := 77) rfl rfl rfl rfl ?_
 refine Trip.sr tblOk ?_
 refine Trip.scope ?_
 refine Trip.sR tblOk (by repeat' (first | exact rfl | (apply Rule.sem; intro hγ; with_reducible apply F_makeMap) | constructor)) ?_
 refine Trip.seq (Trip.sr tblOk ?_)
 refine Trip.block ?_
 refine Trip.loop (fun (i : Nat) => ⟨[(2, .sl nf 1 (fr0.map fun x => sV x)), (3, .ref 3 0), (6, nilS), (7, nilS), (8, .mref 16), (17, .sl nc 1 (cuts.map fun x => sV x)), (18, iV cuts.length), (19, iV i)], [(3, .box [.sl nl 3 (l.map It.pv)]), (16, .map ((seenN cuts i).1.map strK) ((seenN cuts i).2.map fun b => bV b))]⟩) (fun (i : Nat) => i ≤ cuts.length) (fun (i : Nat) => cuts.length - i) (0) (by first | omega | (simp; done)) (Weak.kp (ht := by repeat' (first | exact rfl | (refine vI ?_; first | omega | (simp; done) | (simp; omega) | (simp only [List.length_map] at *; omega)) | constructor))) ?_
 intro i hi2
 refine Trip.sr tblOk ?_
 refine Trip.seq ?_
 apply Trip.cond (.tmp rfl)
 ·intro h
  have h : i < cuts.length := by simp at h; omega
  have hlen := hlen i
  have hstep : seenN cuts (i + 1) = (mkeys (seenN cuts i).1 cuts[i]!, mset (seenN cuts i).1 (seenN cuts i).2 cuts[i]! true) := rfl
  clear c1 hend
  generalize hq2 : seenN cuts (i + 1) = q2 at *
  generalize seenN cuts i = q at *
  obtain ⟨ks, bs⟩ := q
  subst hstep
  dsimp only at *
  refine Trip.skip (Trip.seq (Trip.block (Trip.sR tblOk (by repeat' (first | exact rfl | exact idx_map _ _ _ (by show _ < _; first | omega | (simp only [List.length_map] at *; omega)) | ((with_reducible refine Side.mk ?_); (simp only [ln]; first | done | omega)) | constructor)) ?_)))
  refine Trip.R tblOk (by repeat' (first | exact rfl | (apply Rule.sem; intro hγ; with_reducible apply F_mapUpdate (K := strK) (f := bV) tblOk hγ) | exact KeyLaw.str tblOk rfl rfl | ((with_reducible refine Side.mk ?_); omega) | constructor)) ?_
  refine Trip.R tblOk (by repeat' (first | exact rfl | ((with_reducible refine Side.mk ?_); omega) | constructor)) ?_
  exact ⟨i + 1, by first | omega | (dsimp only at *; omega), by first | omega | (dsimp only at *; omega), Weak.kp (ho := by repeat' (first | exact rfl | (rw [hq2]; rfl) | constructor)) (huo := by repeat' (first | exact rfl | exact plainL_map _ (fun _ => rfl) _ | constructor))⟩
 intro h
 have h : i = cuts.length := by simp at h; omega
 subst h
 refine Trip.exit ?_
 have hlenC := hlen cuts.length
 clear hlen
 generalize seenN cuts cuts.length = q at *
 obtain ⟨kc, bc⟩ := q
 dsimp only at *
 refine Trip.sR tblOk (by repeat' (first | exact rfl | (apply Rule.sem; intro hγ; with_reducible apply F_makeMap) | constructor)) ?_
 refine Trip.sR tblOk (by repeat' (first | exact rfl | (apply Rule.sem; intro hγ; with_reducible apply F_call (x := .func 34) (σ := []) (B := []) (news := [900]) hγ (hspec := c1)) | exact plainL_map _ (fun _ => rfl) _ | ((with_reducible refine Side.mk ?_); exact .inl rfl) | constructor)) ?_
 clear c1
 refine Trip.seq ?_
 refine Trip.label ?_
 refine Trip.seq (Trip.block ?_)
 apply Trip.loop (fun (q : List Str × List Str) => ⟨[(3, .ref 3 0), (6, .osl 901 0 (q.1.filter (placed l)).length (q.1.filter (placed l)).length), (7, .osl 902 0 (q.1.filter fun x => !placed l x).length (q.1.filter fun x => !placed l x).length), (8, .mref 16), (11, .mref 26), (12, .osl 900 0 q.2.length q.2.length)], [(901, .arr 1 (q.1.filter (placed l)).isEmpty ((q.1.filter (placed l)).map fun x => sV x)), (902, .arr 1 (q.1.filter fun x => !placed l x).isEmpty ((q.1.filter fun x => !placed l x).map fun x => sV x)), (900, .arr 1 nf (q.2.map fun x => sV x)), (26, .map ((seenL q.1).1.map strK) ((seenL q.1).2.map fun b => bV b)), (16, .map (kc.map strK) (bc.map fun b => bV b)), (3, .box [.sl nl 3 (l.map It.pv)])]⟩) (fun (q : List Str × List Str) => Onway l cuts fr0 q.1 q.2 ∧ (nf = true → q.2 = []) ∧ toCome l cuts q.1 l + q.2.length + q.1.length ≤ 2000000000000) (fun (q : List Str × List Str) => toCome l cuts q.1 l + q.2.length) (([], fr0))
 ·exact ⟨Onway.start l cuts fr0, hnf, by dsimp only [List.length_nil]; omega⟩
 ·refine Weak.trans (S2 := ⟨[(3, .ref 3 0), (6, nilS), (7, nilS), (8, .mref 16), (11, .mref 26), (12, .osl 900 0 fr0.length fr0.length)], [(900, .arr 1 nf (fr0.map fun x => sV x)), (26, .map [] []), (16, .map (kc.map strK) (bc.map fun b => bV b)), (3, .box [.sl nl 3 (l.map It.pv)])]⟩) ?_ (Weak.trans (S2 := ⟨[(3, .ref 3 0), (6, nilS), (7, .osl 902 0 0 0), (8, .mref 16), (11, .mref 26), (12, .osl 900 0 fr0.length fr0.length)], [(902, .arr 1 true []), (900, .arr 1 nf (fr0.map fun x => sV x)), (26, .map [] []), (16, .map (kc.map strK) (bc.map fun b => bV b)), (3, .box [.sl nl 3 (l.map It.pv)])]⟩) ?_ (Weak.trans (S2 := ⟨[(3, .ref 3 0), (6, .osl 901 0 0 0), (7, .osl 902 0 0 0), (8, .mref 16), (11, .mref 26), (12, .osl 900 0 fr0.length fr0.length)], [(901, .arr 1 true []), (902, .arr 1 true []), (900, .arr 1 nf (fr0.map fun x => sV x)), (26, .map [] []), (16, .map (kc.map strK) (bc.map fun b => bV b)), (3, .box [.sl nl 3 (l.map It.pv)])]⟩) ?_ ?_))
  ·exact Weak.kp (huo := by repeat' (first | exact rfl | exact plainL_map _ (fun _ => rfl) _ | constructor))
  ·exact Weak.adopt 902 1 rfl rfl (by repeat' (first | exact rfl | constructor)) (by repeat' (first | exact rfl | constructor))
  ·exact Weak.adopt 901 1 rfl rfl (by repeat' (first | exact rfl | constructor)) (by repeat' (first | exact rfl | constructor))
  ·exact Weak.kp (huo := by repeat' (first | exact rfl | exact plainL_map _ (fun _ => rfl) _ | constructor))
 rintro ⟨met, nx⟩ ⟨hO, hnn, hto⟩
 dsimp only at *
 refine Trip.seq (Trip.sR tblOk (by repeat' (first | exact rfl | ((with_reducible refine Side.mk ?_); (simp only [ln]; first | done | omega)) | constructor)) ?_)
 apply Trip.cond (.tmp rfl)
 ·intro h
  have h : 0 < nx.length := by simp at h; omega
  have hnf2 : nf = false := by cases nf with | false => rfl | true => rw [hnn rfl] at h; simp at h
  subst hnf2
  clear hnn hnf
  have hx : nx = nx.take (nx.length - 1) ++ [nx[nx.length - 1]!] := by
   rw [getElem!_pos nx _ (by omega)]
   conv => lhs; rw [← List.take_append_drop (nx.length - 1) nx]
   rw [List.drop_eq_getElem_cons (by omega), List.drop_of_length_le (by omega)]
  generalize hX : nx[nx.length - 1]! = X at *
  refine Trip.skip (Trip.block ?_)
  have hlm := seenL_len met
  have hvm := seenL_val met X
  generalize hkm : seenL met = q at *
  obtain ⟨km, bm⟩ := q
  dsimp only at *
  have hTl : (met.filter (placed l)).length ≤ met.length := List.length_filter_le _ _
  have hMl : (met.filter fun x => !placed l x).length ≤ met.length := List.length_filter_le _ _
  generalize hTT : met.filter (placed l) = TT at *
  generalize hMM : (met.filter fun x => !placed l x) = MM at *
  refine Trip.rk ⟨[(3, .ref 3 0), (6, .osl 901 0 TT.length TT.length), (7, .osl 902 0 MM.length MM.length), (8, .mref 16), (11, .mref 26), (12, .osl 900 0 nx.length nx.length), (13, sV X)], [(900, .arr 1 false (nx.map fun x => sV x)), (901, .arr 1 TT.isEmpty (TT.map fun x => sV x)), (902, .arr 1 MM.isEmpty (MM.map fun x => sV x)), (26, .map (km.map strK) (bm.map fun b => bV b)), (16, .map (kc.map strK) (bc.map fun b => bV b)), (3, .box [.sl nl 3 (l.map It.pv)])]⟩ tblOk (by repeat' (first | exact rfl | exact idx_map _ _ _ (by show _ < _; first | omega | (simp only [List.length_map] at *; omega)) | ((with_reducible refine Side.mk ?_); first | omega | (simp only [ln]; first | done | omega)) | constructor)) (Weak.kp (ht := by repeat' (first | exact rfl | exact vT (by rw [← hX]; congr 1; omega) | constructor)) (huo := by repeat' (first | exact rfl | exact plainL_map _ (fun _ => rfl) _ | constructor))) ?_
  refine Trip.rk ⟨[(3, .ref 3 0), (6, .osl 901 0 TT.length TT.length), (7, .osl 902 0 MM.length MM.length), (8, .mref 16), (11, .mref 26), (12, .osl 900 0 (nx.length - 1) (nx.map fun x => sV x).length), (13, sV X)], [(900, .arr 1 false (nx.map fun x => sV x)), (901, .arr 1 TT.isEmpty (TT.map fun x => sV x)), (902, .arr 1 MM.isEmpty (MM.map fun x => sV x)), (26, .map (km.map strK) (bm.map fun b => bV b)), (16, .map (kc.map strK) (bc.map fun b => bV b)), (3, .box [.sl nl 3 (l.map It.pv)])]⟩ tblOk (by repeat' (first | exact rfl | ((first | with_reducible refine bokR ?_ | with_reducible refine Side.mk ?_); first | omega | (simp only [ln]; first | done | omega)) | constructor)) (Weak.kp (ht := by repeat' (first | exact rfl | (refine Side.mk (oslE ?_ ?_) <;> simp [loOf, hiOf] <;> omega) | constructor)) (huo := by repeat' (first | exact rfl | exact plainL_map _ (fun _ => rfl) _ | constructor))) ?_
  obtain ⟨PR, hPR⟩ : ∃ PR, nx.take (nx.length - 1) = PR := ⟨_, rfl⟩
  have hPl : nx.length - 1 = PR.length := by rw [← hPR, List.length_take]; omega
  have hmt : (nx.map fun x => sV x).take (nx.length - 1) = PR.map fun x => sV x := by rw [← hPR]; exact List.map_take.symm
  apply Trip.weak (S' := ⟨[(3, .ref 3 0), (6, .osl 901 0 TT.length TT.length), (7, .osl 902 0 MM.length MM.length), (8, .mref 16), (11, .mref 26), (12, .osl 900 0 (nx.length - 1) (nx.length - 1)), (13, sV X)], [(900, .arr 1 false ((nx.map fun x => sV x).take (nx.length - 1))), (901, .arr 1 TT.isEmpty (TT.map fun x => sV x)), (902, .arr 1 MM.isEmpty (MM.map fun x => sV x)), (26, .map (km.map strK) (bm.map fun b => bV b)), (16, .map (kc.map strK) (bc.map fun b => bV b)), (3, .box [.sl nl 3 (l.map It.pv)])]⟩)
  ·refine Weak.shrink 900 1 (nx.length - 1) rfl (Side.mk (by simp)) (Side.mk (by rw [hmt]; exact plainL_map _ (fun _ => rfl) _)) rfl rfl rfl ?_ ?_
   ·repeat' (first | exact rfl | constructor)
   ·repeat' (first | exact rfl | exact plainL_map _ (fun _ => rfl) _ | constructor)
  rw [hmt, hPl]
  rw [hPR] at hx
  have hPn : nx.length = PR.length + 1 := by omega
  have hnm : ∀ y, y ∈ nx ↔ y = X ∨ y ∈ PR := fun y => by
   conv => lhs; rw [hx]
   rw [List.mem_append, List.mem_singleton]; exact Or.comm
  clear hx hPl hmt hX hPR
  refine Trip.seq (Trip.sR tblOk (by repeat' (first | exact rfl | (apply Rule.sem; intro hγ; with_reducible apply F_lookup (K := strK) (f := bV) (z := false) (zv := .bool false) tblOk hγ (hz := zBool) (hzf := fun _ _ _ => .v _ _)) | exact KeyLaw.str tblOk rfl rfl | ((with_reducible refine Side.mk ?_); omega) | constructor)) ?_)
  apply Trip.cond (.tmp rfl)
  ·intro h2
   have h2 : mval km bm false X = true := h2
   rw [hvm, hasS_iff] at h2
   refine Trip.exit ?_
   exact ⟨(met, PR), by exact ⟨hO.old hnm h2, by simp, by dsimp only; omega⟩, by first | omega | (dsimp only at *; omega), Weak.kp (ht := by repeat' (first | exact rfl | (dsimp only; simp only [hkm, hTT, hMM]) | constructor)) (ho := by repeat' (first | exact rfl | (dsimp only; simp only [hkm, hTT, hMM]) | constructor)) (huo := by repeat' (first | exact rfl | (dsimp only; simp only [hkm, hTT, hMM]) | exact plainL_map _ (fun _ => rfl) _ | constructor))⟩
  intro h2
  have h2 : mval km bm false X = false := h2
  rw [hvm] at h2
  have hXm : X ∉ met := fun k => by rw [(hasS_iff _ _).2 k] at h2; simp at h2
  have hkm2 := seenL_snoc met X
  rw [hkm] at hkm2
  dsimp only at hkm2
  refine Trip.skip ?_
  refine Trip.rk ⟨[(3, .ref 3 0), (6, .osl 901 0 TT.length TT.length), (7, .osl 902 0 MM.length MM.length), (8, .mref 16), (11, .mref 26), (12, .osl 900 0 PR.length PR.length), (13, sV X)], [(900, .arr 1 false (PR.map fun x => sV x)), (901, .arr 1 TT.isEmpty (TT.map fun x => sV x)), (902, .arr 1 MM.isEmpty (MM.map fun x => sV x)), (26, .map ((mkeys km X).map strK) ((mset km bm X true).map fun b => bV b)), (16, .map (kc.map strK) (bc.map fun b => bV b)), (3, .box [.sl nl 3 (l.map It.pv)])]⟩ tblOk (by repeat' (first | exact rfl | (apply Rule.sem; intro hγ; with_reducible apply F_mapUpdate (K := strK) (f := bV) tblOk hγ) | exact KeyLaw.str tblOk rfl rfl | ((with_reducible refine Side.mk ?_); omega) | constructor)) (Weak.kp (huo := by repeat' (first | exact rfl | exact plainL_map _ (fun _ => rfl) _ | constructor))) ?_
  have cG := cGet nl l X (by omega)
  have hm' : ∀ y, y ∈ met ++ [X] ↔ y = X ∨ y ∈ met := fun y => by rw [List.mem_append, List.mem_singleton]; exact Or.comm
  have hnd' : (met ++ [X]).Nodup := by
   rw [List.nodup_append]
   exact ⟨hO.nd, by simp, by intro a ha b hb; rw [List.mem_singleton] at hb; subst hb; intro e; subst e; exact hXm ha⟩
  have hXn : X ∈ nx := (hnm X).2 (.inl rfl)
  have hmono := toCome_mono l cuts (met := met) (met' := met ++ [X]) (fun y hy => (hm' y).2 (.inr hy)) l
  cases hpl : placed l X with
  | false =>
   rw [hpl] at cG
   simp only [Bool.false_eq_true, if_false] at cG
   have hT2 : (met ++ [X]).filter (placed l) = TT := by rw [List.filter_append, hTT]; simp [hpl]
   have hM2 : (met ++ [X]).filter (fun x => !placed l x) = MM ++ [X] := by rw [List.filter_append, hMM]; simp [hpl]
   refine Trip.sR tblOk (by repeat' (first | exact rfl | (apply Rule.sem; intro hγ; with_reducible apply F_call0 (x := .func 35) (B := []) hγ (hspec := cG)) | ((with_reducible refine Side.mk ?_); exact .inl rfl) | constructor)) ?_
   refine Trip.seq (Trip.sr tblOk ?_)
   apply Trip.cond (.tmp rfl)
   ·intro h3
    clear h3
    refine Trip.sR tblOk (by repeat' (first | exact rfl | ((with_reducible refine Side.mk ?_); (simp only [ln]; first | done | omega)) | constructor)) ?_
    refine Trip.exit ?_
    exact ⟨(met ++ [X], PR), by exact ⟨hO.new (fun y hy => (hnm y).1 hy) (fun y hy => .inl ((hnm y).2 (.inr hy))) hXn hXm hm' hnd' (fun e => by rw [hpl] at e; simp at e), by simp, by dsimp only; rw [List.length_append, List.length_singleton]; omega⟩, by first | omega | (dsimp only at *; omega), Weak.kp (ht := by repeat' (first | exact rfl | (refine Side.mk ?_; dsimp only; simp only [hkm2, hT2, hM2]; done) | (refine Side.mk ?_; dsimp only; simp only [hM2]; refine oslE ?_ ?_ <;> simp; done) | constructor)) (ho := by repeat' (first | exact rfl | (refine Side.mk ?_; dsimp only; simp only [hkm2, hT2, hM2]; done) | (refine Side.mk ?_; dsimp only; simp only [hM2]; exact arrF (by simp) (by simp)) | constructor)) (huo := by repeat' (first | exact rfl | exact plainL_map _ (fun _ => rfl) _ | constructor))⟩
   intro h3
   exact absurd h3 (by decide)
  | true =>
   rw [hpl] at cG
   simp only [if_true] at cG
   have c2 := cLinksN l[place l X]!.kind l[place l X]!.body (mval kc bc false X)
   have hN : nmsOf l[place l X]!.kind l[place l X]!.body (mval kc bc false X) = nmAt l cuts X := by rw [hend X]; rfl
   rw [hN] at c2
   clear hN
   have hNl := nmAt_len l cuts X
   have hcome := toCome_new l cuts hm' hXm l (placed_mem hpl)
   have hon := hO.new (x := X) (next' := PR ++ nmAt l cuts X) (met' := met ++ [X]) (fun y hy => ((hnm y).1 hy).imp id fun k => List.mem_append_left _ k) (fun y hy => (List.mem_append.1 hy).imp (fun k => (hnm y).2 (.inr k)) fun k => ⟨hpl, k⟩) hXn hXm hm' hnd' (fun _ y hy => List.mem_append_right _ hy)
   generalize nmAt l cuts X = NM at *
   generalize l[place l X]!.kind = kk at *
   generalize l[place l X]!.body = bb at *
   generalize (linksOf kk bb).isEmpty = le at *
   have hT2 : (met ++ [X]).filter (placed l) = TT ++ [X] := by rw [List.filter_append, hTT]; simp [hpl]
   have hM2 : (met ++ [X]).filter (fun x => !placed l x) = MM := by rw [List.filter_append, hMM]; simp [hpl]
   refine Trip.sR tblOk (by repeat' (first | exact rfl | (apply Rule.sem; intro hγ; with_reducible apply F_call0 (x := .func 35) (B := []) hγ (hspec := cG)) | ((with_reducible refine Side.mk ?_); exact .inl rfl) | constructor)) ?_
   refine Trip.seq (Trip.sr tblOk ?_)
   apply Trip.cond (.tmp rfl)
   ·intro h3
    exact absurd h3 (by decide)
   intro h3
   clear h3
   refine Trip.skip (Trip.sR tblOk (by repeat' (first | exact rfl | ((with_reducible refine Side.mk ?_); (simp only [ln]; first | done | omega)) | constructor)) ?_)
   refine Trip.R tblOk (by repeat' (first | exact rfl | (apply Rule.sem; intro hγ; with_reducible apply F_lookup (K := strK) (f := bV) (z := false) (zv := .bool false) tblOk hγ (hz := zBool) (hzf := fun _ _ _ => .v _ _)) | exact KeyLaw.str tblOk rfl rfl | (apply Rule.sem; intro hγ; with_reducible apply F_call0 (x := .func 121) (B := []) hγ (hspec := c2)) | exact cellsOk_map _ (fun _ => rfl) _ | ((with_reducible refine Side.mk ?_); first | omega | exact .inl rfl | (simp only [ln]; first | done | omega)) | constructor)) ?_
   have hPN : (PR ++ NM).length = PR.length + NM.length := List.length_append
   exact ⟨(met ++ [X], PR ++ NM), by exact ⟨hon, by simp, by dsimp only; rw [List.length_append, List.length_append, List.length_singleton]; omega⟩, by first | omega | (dsimp only at *; omega), Weak.kp (ht := by repeat' (first | exact rfl | (refine Side.mk ?_; dsimp only; simp only [hkm2, hT2, hM2]; done) | (refine Side.mk ?_; dsimp only; (try simp only [hT2]); refine oslE ?_ ?_ <;> simp; done) | constructor)) (ho := by repeat' (first | exact rfl | (refine Side.mk ?_; dsimp only; simp only [hkm2, hT2, hM2]; done) | (refine Side.mk ?_; dsimp only; (try simp only [hT2]); exact arrF (by simp) (by simp)) | constructor)) (huo := by repeat' (first | exact rfl | exact plainL_map _ (fun _ => rfl) _ | constructor))⟩
 intro h
 have h : nx = [] := by simpa using h
 subst h
 refine Trip.exit ?_
 have hTl : (met.filter (placed l)).length ≤ met.length := List.length_filter_le _ _
 have hMl : (met.filter fun x => !placed l x).length ≤ met.length := List.length_filter_le _ _
 have hre := (hO.reach (msort_asc (hO.nd.filter (placed l))) (msort_asc (hO.nd.filter fun x => !placed l x)) (fun x => msort_mem _ x) (fun x => msort_mem _ x)).uniq hR
 have e1 : (met.filter (placed l)).isEmpty = H.isEmpty := by rw [← hre.1, Bool.eq_iff_iff, List.isEmpty_iff_length_eq_zero, List.isEmpty_iff_length_eq_zero, msort_len]
 have e2 : (met.filter fun x => !placed l x).isEmpty = K.isEmpty := by rw [← hre.2, Bool.eq_iff_iff, List.isEmpty_iff_length_eq_zero, List.isEmpty_iff_length_eq_zero, msort_len]
 have e3 : (met.filter (placed l)).length = H.length := by rw [← hre.1, msort_len]
 have e4 : (met.filter fun x => !placed l x).length = K.length := by rw [← hre.2, msort_len]
 have s1 := cSortS (met.filter (placed l)).length (met.filter (placed l)).isEmpty (met.filter (placed l)) rfl (by omega)
 have s2 := cSortS (met.filter fun x => !placed l x).length (met.filter fun x => !placed l x).isEmpty (met.filter fun x => !placed l x) rfl (by omega)
 rw [hre.1, e1, e3] at s1
 rw [hre.2, e2, e4] at s2
 dsimp only
 rw [e1, e2, e3, e4]
 generalize hq : seenL met = q
 clear hre e1 e2
 generalize met.filter (placed l) = TT at *
 generalize (met.filter fun x => !placed l x) = MM at *
 refine Trip.sR tblOk (by repeat' (first | exact rfl | (apply Rule.sem; intro hγ; with_reducible apply F_call (x := .func 55) (σ := [901]) (B := []) (news := []) hγ (hspec := s1)) | exact plainL_map _ (fun _ => rfl) _ | ((with_reducible refine Side.mk ?_); exact .inl rfl) | constructor)) ?_
 refine Trip.sR tblOk (by repeat' (first | exact rfl | (apply Rule.sem; intro hγ; with_reducible apply F_call (x := .func 55) (σ := [902]) (B := []) (news := []) hγ (hspec := s2)) | exact plainL_map _ (fun _ => rfl) _ | ((with_reducible refine Side.mk ?_); exact .inl rfl) | constructor)) ?_
 refine Trip.sr tblOk ?_
 refine Trip.ret (rt2 [901, 902] (hc := by repeat' (first | exact rfl | exact plainL_map _ (fun _ => rfl) _ | (refine Side.mk ?_; simp only [ln]; first | done | omega) | constructor)) (hd := by repeat' (first | exact rfl | exact plainL_map _ (fun _ => rfl) _ | (refine Side.mk ?_; simp only [ln]; first | done | omega) | constructor)))
end Go.Proofs.Tryz
namespace Go.Proofs.Tryz
open Go Go.Sym Go.Graft
set_option maxRecDepth 20000
def fitsP (l : List It) (x : Str) (k : Int) : Bool := placed l x && decide (l[place l x]!.kind = k)
theorem cFits (nl : Bool) (l : List It) (x : Str) (k : Int) (hs : l.length ≤ 1000000000) : Ctr prog 124 [stPV nl l, sV x, iV k] [] (bV (fitsP l x k)) [] [] := by
 have c := cGet nl l x hs
 have h : fitsP l x k = (decide ((if placed l x = true then (0 : Int) else 5) = 0) && decide ((if placed l x = true then l[place l x]!.kind else 0) = k)) := by
  rw [fitsP]
  cases placed l x <;> simp
 rw [h]
 generalize (if placed l x = true then (0 : Int) else 5) = ee at *
 generalize (if placed l x = true then l[place l x]!.kind else 0) = kk at *
 generalize (if placed l x = true then l[place l x]!.body else []) = bb at *
 refine Ctr.enter tblOk func124 rfl (by decide) rfl (nt := 23) rfl rfl rfl rfl ?_
 refine Trip.sr tblOk ?_
 refine Trip.sR tblOk (by repeat' (first | exact rfl | (apply Rule.sem; intro hγ; with_reducible apply F_call0 (x := .func 35) (B := []) hγ (hspec := c)) | ((with_reducible refine Side.mk ?_); exact .inl rfl) | constructor)) ?_
 refine Trip.sR tblOk (by repeat' (first | exact rfl | ((with_reducible refine Side.mk ?_); first | exact fun h => h | exact fun _ h => h) | constructor)) ?_
 refine Trip.ret (rt1 [] (hc := by repeat' (exact cvB (by simp only [List.length_map]))))
end Go.Proofs.Tryz
namespace Go.Proofs.Tryz
open Go Go.Sym Go.Graft
set_option maxRecDepth 20000
theorem cIndexFuncE (nl : Bool) (l : List En) (f : Nat) (caps : List PV) (hp : plainL caps = true) (q : En → Bool) (hs : l.length ≤ 1000000000000) (hq : ∀ x ∈ l, Ctr prog f (x.pv :: caps) [] (bV (q x)) [] []) : Ctr prog 165 [.sl nl 3 (l.map En.pv), .clo (.func f) [] caps] [] (iV (idxP q l)) [] [] := by
 refine Ctr.enter tblOk func165 rfl (by decide) rfl (nt := 19) rfl rfl rfl rfl ?_
 refine Trip.sr tblOk ?_
 refine Trip.seq (Trip.sr tblOk ?_)
 refine Trip.block ?_
 refine Trip.loop (fun (i : Nat) => ⟨[(0, .sl nl 3 (l.map En.pv)), (1, .clo (.func f) [] caps), (7, iV l.length), (8, iV i)], []⟩) (fun (i : Nat) => i ≤ l.length ∧ ∀ j, j < i → q l[j]! = false) (fun (i : Nat) => l.length - i) (0) (by exact ⟨Nat.zero_le _, fun j hj => absurd hj (by omega)⟩) (Weak.kp (ht := by repeat' (first | exact rfl | (refine vI ?_; first | omega | (simp; done) | (simp; omega) | (simp only [List.length_map] at *; omega)) | constructor)) (hu := by (show (usesOnlyL _ _ && _) = true; rw [usesOnlyL_plain (by assumption)]; rfl))) ?_
 intro i hi
 obtain ⟨hi, hj⟩ := hi
 refine Trip.sr tblOk ?_
 refine Trip.seq ?_
 apply Trip.cond (.tmp rfl)
 ·intro h
  have h : i < l.length := by simp at h; omega
  have c := hq _ (bang_mem h)
  refine Trip.skip (Trip.seq (Trip.block (Trip.sr tblOk ?_)))
  refine Trip.sR tblOk (by repeat' (first | exact rfl | (apply Rule.sem; intro hγ; with_reducible apply F_call0 (x := .tmp 11) (B := []) hγ (hspec := c)) | exact convL_plain (by assumption) | exact idx_map _ _ _ (by show _ < _; first | omega | (simp only [List.length_map] at *; omega)) | ((with_reducible refine Side.mk ?_); first | exact .inl rfl | (simp only [ln]; first | done | omega)) | constructor)) ?_
  apply Trip.cond (.tmp rfl)
  ·intro h2
   have h2 : q l[i]! = true := h2
   rw [idxP_some h hj h2]
   refine Trip.sr tblOk ?_
   refine Trip.ret (rt1 [])
  intro h2
  have h2 : q l[i]! = false := h2
  refine Trip.skip (Trip.R tblOk (by repeat' (first | exact rfl | ((with_reducible refine Side.mk ?_); omega) | constructor)) ?_)
  exact ⟨i + 1, by exact ⟨by omega, fun j h3 => (Nat.lt_succ_iff_lt_or_eq.1 h3).elim (hj j) (fun e => e ▸ h2)⟩, by first | omega | (dsimp only at *; omega), Weak.kp (hu := by (show (usesOnlyL _ _ && _) = true; rw [usesOnlyL_plain (by assumption)]; rfl))⟩
 intro h
 have h : i = l.length := by simp at h; omega
 subst h
 rw [idxP_none hj]
 refine Trip.exit (Trip.sr tblOk ?_)
 refine Trip.ret (rt1 [])
theorem cContainsFuncE (nl : Bool) (l : List En) (f : Nat) (caps : List PV) (hp : plainL caps = true) (q : En → Bool) (hs : l.length ≤ 1000000000000) (hq : ∀ x ∈ l, Ctr prog f (x.pv :: caps) [] (bV (q x)) [] []) : Ctr prog 122 [.sl nl 3 (l.map En.pv), .clo (.func f) [] caps] [] (bV (l.any q)) [] [] := by
 have c := cIndexFuncE nl l f caps hp q hs hq
 rw [← idxP_any]
 generalize idxP q l = r at *
 refine Ctr.enter tblOk func122 rfl (by decide) rfl (nt := 9) rfl rfl rfl rfl ?_
 refine Trip.sr tblOk ?_
 refine Trip.sR tblOk (by repeat' (first | exact rfl | (apply Rule.sem; intro hγ; with_reducible apply F_call0 (x := .func 165) (B := []) hγ (hspec := c)) | exact convL_plain (by assumption) | ((with_reducible refine Side.mk ?_); exact .inl rfl) | constructor)) ?_
 refine Trip.ret (rt1 [] (hc := by repeat' (exact cvB (by simp only [List.length_map]))))
theorem cLinkedE (nl : Bool) (l : List It) (hs : l.length ≤ 1000000000) (x : En) : Ctr prog 123 [x.pv, .rp [.sl nl 3 (l.map It.pv)]] [] (bV (!fitsP l x.id (if x.mode = 4 then 2 else 1))) [] [] := by
 have c := cFits nl l x.id (if x.mode = 4 then 2 else 1) hs
 generalize hk : (if x.mode = 4 then (2 : Int) else 1) = k at *
 generalize fitsP l x.id k = r at *
 obtain ⟨mode, name, id⟩ := x
 dsimp only at *
 refine Ctr.enter tblOk func123 rfl (by decide) rfl (nt := 14) rfl rfl rfl rfl ?_
 refine Trip.sr tblOk ?_
 refine Trip.sr tblOk ?_
 refine Trip.seqk ⟨[(1, .rp [.sl nl 3 (l.map It.pv)]), (2, .ref 2 0), (4, iV k)], [(2, .box [iV mode, sV name, sV id])]⟩ ?_ ?_
 ·refine Trip.sr tblOk ?_
  apply Trip.cond (.tmp rfl)
  ·intro h
   have h : mode = 4 := by simpa using h
   rw [if_pos h] at hk
   subst hk
   refine Trip.r tblOk ?_
   exact Weak.kp
  ·intro h
   have h : ¬ mode = 4 := by simpa using h
   rw [if_neg h] at hk
   subst hk
   refine Trip.skip ?_
   exact Weak.kp
 refine Trip.sR tblOk (by repeat' (first | exact rfl | (apply Rule.sem; intro hγ; with_reducible apply F_call0 (x := .func 124) (B := []) hγ (hspec := c)) | ((with_reducible refine Side.mk ?_); exact .inl rfl) | constructor)) ?_
 refine Trip.ret (rt1 [] (hc := by repeat' (exact cvB (by simp only [List.length_map]))))
theorem cLinkedS (nl : Bool) (l : List It) (hs : l.length ≤ 1000000000) (x : Str) : Ctr prog 125 [sV x, .rp [.sl nl 3 (l.map It.pv)]] [] (bV (!fitsP l x 3)) [] [] := by
 have c := cFits nl l x 3 hs
 generalize fitsP l x 3 = r at *
 refine Ctr.enter tblOk func125 rfl (by decide) rfl (nt := 8) rfl rfl rfl rfl ?_
 refine Trip.sr tblOk ?_
 refine Trip.sR tblOk (by repeat' (first | exact rfl | (apply Rule.sem; intro hγ; with_reducible apply F_call0 (x := .func 124) (B := []) hγ (hspec := c)) | ((with_reducible refine Side.mk ?_); exact .inl rfl) | constructor)) ?_
 refine Trip.ret (rt1 [] (hc := by repeat' (exact cvB (by simp only [List.length_map]))))
def linkP (l : List It) (k : Int) (b : Str) (cut : Bool) : Bool :=
 if k = 2 then !((treeOf b).2.any fun x => !fitsP l x.id (if x.mode = 4 then 2 else 1))
 else if k = 3 then fitsP l (comP b).2.tree 2 && (cut || !((comP b).2.pars.any fun p => !fitsP l p 3))
 else if k = 4 then fitsP l (tgP b).2.obj (tgP b).2.kind
 else true
theorem cLinked (nl : Bool) (l : List It) (k : Int) (b : Str) (cut : Bool) (hs : l.length ≤ 1000000000) (hb : b.length ≤ 100000000) : Ctr prog 83 [stPV nl l, objPV k b, bV cut] [] (bV (linkP l k b cut)) [] [] := by
 rw [linkP]
 refine Ctr.enter tblOk func83 rfl (by decide) rfl (nt := 63) rfl rfl rfl rfl ?_
 refine Trip.sr tblOk ?_
 apply Trip.weak (S' := ⟨[(2, bV cut), (3, .rp [.sl nl 3 (l.map It.pv)]), (4, .ref 4 0)], [(4, .box [iV k, sV b])]⟩)
 ·refine Weak.trans (S2 := ⟨[(2, bV cut), (3, .ref 3 0), (4, .ref 4 0)], [(3, .box [.sl nl 3 (l.map It.pv)]), (4, .box [iV k, sV b])]⟩) ?_ ?_
  ·exact Weak.kp
  ·refine Weak.turn [3] rfl rfl ?_ ?_
   ·repeat' (first | exact rfl | constructor)
   ·repeat' (first | exact rfl | constructor)
 refine Trip.seq (Trip.sr tblOk ?_)
 refine Trip.block (Trip.sr tblOk ?_)
 apply Trip.cond (.tmp rfl)
 ·intro h
  have h : k = 2 := by simpa using h
  rw [if_pos h]
  have c1 := cParseT b (by omega)
  generalize (treeOf b).1 = e at *
  generalize hE : (treeOf b).2 = E at *
  have hEl : E.length ≤ 1000000000000 := by have := treeOf_len b; rw [hE] at this; omega
  have c2 := cContainsFuncE E.isEmpty E 123 [.rp [.sl nl 3 (l.map It.pv)]] rfl (fun x => !fitsP l x.id (if x.mode = 4 then 2 else 1)) hEl (fun x _ => cLinkedE nl l hs x)
  generalize (E.any fun x => !fitsP l x.id (if x.mode = 4 then 2 else 1)) = r at *
  refine Trip.sR tblOk (by repeat' (first | exact rfl | (apply Rule.sem; intro hγ; with_reducible apply F_call0 (x := .func 62) (B := []) hγ (hspec := c1)) | ((with_reducible refine Side.mk ?_); exact .inl rfl) | constructor)) ?_
  refine Trip.sR tblOk (by repeat' (first | exact rfl | (apply Rule.sem; intro hγ; with_reducible apply F_call0 (x := .func 122) (B := []) hγ (hspec := c2)) | ((with_reducible refine Side.mk ?_); exact .inl rfl) | constructor)) ?_
  refine Trip.ret (rt1 [] (hc := by repeat' (exact cvB (by simp only [List.length_map]))))
 intro h
 have h : ¬ k = 2 := by simpa using h
 rw [if_neg h]
 refine Trip.sr tblOk ?_
 apply Trip.cond (.tmp rfl)
 ·intro h
  have h : k = 3 := by simpa using h
  rw [if_pos h]
  have c1 := cParseC b hb
  generalize (comP b).1 = e at *
  generalize hC : (comP b).2 = C at *
  have hPl : C.pars.length ≤ 1000000000000 := by have := comR_len b; rw [← com_same, hC] at this; omega
  have c2 := cFits nl l C.tree 2 hs
  have c3 := cContainsFuncS C.pars.isEmpty C.pars 125 [.rp [.sl nl 3 (l.map It.pv)]] rfl (fun p => !fitsP l p 3) hPl (fun x _ => cLinkedS nl l hs x)
  generalize (C.pars.any fun p => !fitsP l p 3) = r at *
  generalize fitsP l C.tree 2 = r2 at *
  generalize C.pars.isEmpty = ni at *
  obtain ⟨tree, pars, ⟨an, am, at', az⟩, ⟨cn, cm, ct, cz⟩, text⟩ := C
  dsimp only at *
  refine Trip.sR tblOk (by repeat' (first | exact rfl | (apply Rule.sem; intro hγ; with_reducible apply F_call0 (x := .func 63) (B := []) hγ (hspec := c1)) | ((with_reducible refine Side.mk ?_); exact .inl rfl) | constructor)) ?_
  refine Trip.sR tblOk (by repeat' (first | exact rfl | (apply Rule.sem; intro hγ; with_reducible apply F_call0 (x := .func 124) (B := []) hγ (hspec := c2)) | (apply Rule.sem; intro hγ; with_reducible apply F_call0 (x := .func 81) (B := []) hγ (hspec := c3)) | ((with_reducible refine Side.mk ?_); first | exact .inl rfl | exact fun h => h | exact fun _ h => h | (intro h1 h2; rw [h1, h2]; rfl)) | constructor)) ?_
  refine Trip.ret (rt1 [] (hc := by repeat' (exact cvB (by simp only [List.length_map]))))
 intro h
 have h : ¬ k = 3 := by simpa using h
 rw [if_neg h]
 refine Trip.sr tblOk ?_
 apply Trip.cond (.tmp rfl)
 ·intro h
  have h : k = 4 := by simpa using h
  rw [if_pos h]
  have c1 := cParseTg b hb
  generalize (tgP b).1 = e at *
  generalize (tgP b).2 = C at *
  have c2 := cFits nl l C.obj C.kind hs
  generalize fitsP l C.obj C.kind = r2 at *
  obtain ⟨obj, kind, name, ⟨an, am, at', az⟩, text⟩ := C
  dsimp only at *
  refine Trip.sR tblOk (by repeat' (first | exact rfl | (apply Rule.sem; intro hγ; with_reducible apply F_call0 (x := .func 64) (B := []) hγ (hspec := c1)) | ((with_reducible refine Side.mk ?_); exact .inl rfl) | constructor)) ?_
  refine Trip.sR tblOk (by repeat' (first | exact rfl | (apply Rule.sem; intro hγ; with_reducible apply F_call0 (x := .func 124) (B := []) hγ (hspec := c2)) | ((with_reducible refine Side.mk ?_); exact .inl rfl) | constructor)) ?_
  refine Trip.ret (rt1 [] (hc := by repeat' (exact cvB (by simp only [List.length_map]))))
 intro h
 have h : ¬ k = 4 := by simpa using h
 rw [if_neg h]
 refine Trip.skip (Trip.sr tblOk ?_)
 refine Trip.ret (rt1 [] (hc := by repeat' (exact cvB (by simp only [List.length_map]))))
end Go.Proofs.Tryz
