/- A part of the proof: Wf, Wk, Wl. -/
import Derived.Test.YteailifhgfijgaaGreatDoorPart41
set_option linter.unusedVariables false
set_option linter.unusedSimpArgs false
namespace Go.Proofs.Tryz
open Go Go.Sym Go.Graft
set_option maxRecDepth 20000
def rchL (H K : List Str) : List Str := if K = [] then H else []
def rchE (K : List Str) : Int := if K = [] then 0 else 171
set_option maxHeartbeats 2000000 in
theorem cReachS (v : Vw) (nf : Bool) (fr0 : List Str) (hs : v.l.length ≤ 1000000) (hc : v.cuts.length ≤ 1000000000) (hid : ∀ x ∈ v.l, x.id.length ≤ 1000000000) (hf : fr0.length ≤ 1000000000) (hnf : nf = true → fr0 = []) (H K : List Str) (hR : IsReach v.l v.cuts fr0 H K) :
  Ctr prog 12 [v.pv, .sl nf 1 (fr0.map fun x => sV x)] [] (.tup [.sl (rchL H K).isEmpty 1 ((rchL H K).map fun x => sV x), iV (rchE K)]) [] [] := by
 obtain ⟨nl, l, nr, rf, ng, lg, nc, cuts⟩ := v
 dsimp only at *
 have hLdef : rchL H K = if K = [] then H else [] := rfl
 have hEdef : rchE K = if K = [] then 0 else 171 := rfl
 generalize rchL H K = RL at *
 generalize rchE K = RE at *
 have hlen := seenN_len cuts
 have hend := fun x => seenN_val cuts x cuts.length (Nat.le_refl _)
 rw [List.take_length] at hend
 have c1 := cCloneS nf (fr0.map fun x => sV x) (by intro h; rw [hnf h]; rfl) (plainL_map _ (fun _ => rfl) _) (cellsOk_map _ (fun _ => rfl) _) (by rw [List.length_map]; omega)
 rw [List.length_map] at c1
 have hW := toCome_le l cuts [] l
 refine Ctr.enter tblOk func12 rfl (by decide) rfl (nt := 84) rfl rfl rfl rfl ?_
 refine Trip.sr tblOk ?_
 refine Trip.sR tblOk (by repeat' (first | exact rfl | (apply Rule.sem; intro hγ; with_reducible apply F_makeMap) | constructor)) ?_
 refine Trip.seq (Trip.sr tblOk ?_)
 refine Trip.block ?_
 refine Trip.loop (fun (i : Nat) => ⟨[(1, .sl nf 1 (fr0.map fun x => sV x)), (2, .ref 2 0), (6, .mref 16), (18, .sl nc 1 (cuts.map fun x => sV x)), (19, iV cuts.length), (20, iV i)], [(16, .map ((seenN cuts i).1.map strK) ((seenN cuts i).2.map fun b => bV b)), (2, .box (Vw.cells ⟨nl, l, nr, rf, ng, lg, nc, cuts⟩))]⟩) (fun (i : Nat) => i ≤ cuts.length) (fun (i : Nat) => cuts.length - i) (0) (by first | omega | (simp; done)) (Weak.kp (ht := by repeat' (first | exact rfl | (refine vI ?_; first | omega | (simp; done) | (simp; omega) | (simp only [List.length_map] at *; omega)) | constructor))) ?_
 intro i hi2
 refine Trip.sr tblOk ?_
 refine Trip.seq ?_
 apply Trip.cond (.tmp rfl)
 ·intro h
  have h : i < cuts.length := by simp at h; omega
  have hlen := hlen i
  have hstep : seenN cuts (i + 1) = (mkeys (seenN cuts i).1 cuts[i]!, mset (seenN cuts i).1 (seenN cuts i).2 cuts[i]! true) := rfl
  clear c1 hend
  generalize hq2 : seenN cuts (i + 1) = q2 at *
  generalize seenN cuts i = q at *
  obtain ⟨ks, bs⟩ := q
  subst hstep
  dsimp only at *
  refine Trip.skip (Trip.seq (Trip.block (Trip.sR tblOk (by repeat' (first | exact rfl | exact idx_map _ _ _ (by show _ < _; first | omega | (simp only [List.length_map] at *; omega)) | ((with_reducible refine Side.mk ?_); (simp only [ln]; first | done | omega)) | constructor)) ?_)))
  refine Trip.R tblOk (by repeat' (first | exact rfl | (apply Rule.sem; intro hγ; with_reducible apply F_mapUpdate (K := strK) (f := bV) tblOk hγ) | exact KeyLaw.str tblOk rfl rfl | ((with_reducible refine Side.mk ?_); omega) | constructor)) ?_
  refine Trip.R tblOk (by repeat' (first | exact rfl | ((with_reducible refine Side.mk ?_); omega) | constructor)) ?_
  exact ⟨i + 1, by first | omega | (dsimp only at *; omega), by first | omega | (dsimp only at *; omega), Weak.kp (ho := by repeat' (first | exact rfl | (rw [hq2]; rfl) | constructor)) (huo := by repeat' (first | exact rfl | exact plainL_map _ (fun _ => rfl) _ | constructor))⟩
 intro h
 have h : i = cuts.length := by simp at h; omega
 subst h
 refine Trip.exit ?_
 have hlenC := hlen cuts.length
 clear hlen
 generalize seenN cuts cuts.length = q at *
 obtain ⟨kc, bc⟩ := q
 dsimp only at *
 refine Trip.sR tblOk (by repeat' (first | exact rfl | (apply Rule.sem; intro hγ; with_reducible apply F_makeMap) | constructor)) ?_
 refine Trip.sR tblOk (by repeat' (first | exact rfl | (apply Rule.sem; intro hγ; with_reducible apply F_call (x := .func 34) (σ := []) (B := []) (news := [900]) hγ (hspec := c1)) | exact plainL_map _ (fun _ => rfl) _ | ((with_reducible refine Side.mk ?_); exact .inl rfl) | constructor)) ?_
 clear c1
 refine Trip.seq (Trip.block ?_)
 refine Trip.loop (fun (q : List Str × List Str) => ⟨[(2, .ref 2 0), (6, .mref 16), (9, .mref 27), (10, .osl 900 0 q.2.length q.2.length)], [(900, .arr 1 nf (q.2.map fun x => sV x)), (27, .map ((seenL q.1).1.map strK) ((seenL q.1).2.map fun b => bV b)), (16, .map (kc.map strK) (bc.map fun b => bV b)), (2, .box (Vw.cells ⟨nl, l, nr, rf, ng, lg, nc, cuts⟩))]⟩) (fun (q : List Str × List Str) => Onway l cuts fr0 q.1 q.2 ∧ (nf = true → q.2 = []) ∧ toCome l cuts q.1 l + q.2.length + q.1.length ≤ 2000000000000 ∧ ∀ x ∈ q.1, placed l x = true) (fun (q : List Str × List Str) => toCome l cuts q.1 l + q.2.length) (([], fr0)) (by exact ⟨Onway.start l cuts fr0, hnf, by dsimp only [List.length_nil]; omega, by simp⟩) (Weak.kp (huo := by repeat' (first | exact rfl | exact plainL_map _ (fun _ => rfl) _ | constructor))) ?_
 rintro ⟨met, nx⟩ ⟨hO, hnn, hto, hpm⟩
 dsimp only at *
 refine Trip.seq (Trip.sR tblOk (by repeat' (first | exact rfl | ((with_reducible refine Side.mk ?_); (simp only [ln]; first | done | omega)) | constructor)) ?_)
 apply Trip.cond (.tmp rfl)
 ·intro h
  have h : 0 < nx.length := by simp at h; omega
  have hnf2 : nf = false := by cases nf with | false => rfl | true => rw [hnn rfl] at h; simp at h
  subst hnf2
  clear hnn hnf
  have hx : nx = nx.take (nx.length - 1) ++ [nx[nx.length - 1]!] := by
   rw [getElem!_pos nx _ (by omega)]
   conv => lhs; rw [← List.take_append_drop (nx.length - 1) nx]
   rw [List.drop_eq_getElem_cons (by omega), List.drop_of_length_le (by omega)]
  generalize hX : nx[nx.length - 1]! = X at *
  refine Trip.skip (Trip.block ?_)
  have hlm := seenL_len met
  have hvm := seenL_val met X
  generalize hkm : seenL met = q at *
  obtain ⟨km, bm⟩ := q
  dsimp only at *
  refine Trip.rk ⟨[(2, .ref 2 0), (6, .mref 16), (9, .mref 27), (10, .osl 900 0 nx.length nx.length), (11, sV X)], [(900, .arr 1 false (nx.map fun x => sV x)), (27, .map (km.map strK) (bm.map fun b => bV b)), (16, .map (kc.map strK) (bc.map fun b => bV b)), (2, .box (Vw.cells ⟨nl, l, nr, rf, ng, lg, nc, cuts⟩))]⟩ tblOk (by repeat' (first | exact rfl | exact idx_map _ _ _ (by show _ < _; first | omega | (simp only [List.length_map] at *; omega)) | ((with_reducible refine Side.mk ?_); first | omega | (simp only [ln]; first | done | omega)) | constructor)) (Weak.kp (ht := by repeat' (first | exact rfl | exact vT (by rw [← hX]; congr 1; omega) | constructor)) (huo := by repeat' (first | exact rfl | exact plainL_map _ (fun _ => rfl) _ | constructor))) ?_
  refine Trip.rk ⟨[(2, .ref 2 0), (6, .mref 16), (9, .mref 27), (10, .osl 900 0 (nx.length - 1) (nx.map fun x => sV x).length), (11, sV X)], [(900, .arr 1 false (nx.map fun x => sV x)), (27, .map (km.map strK) (bm.map fun b => bV b)), (16, .map (kc.map strK) (bc.map fun b => bV b)), (2, .box (Vw.cells ⟨nl, l, nr, rf, ng, lg, nc, cuts⟩))]⟩ tblOk (by repeat' (first | exact rfl | ((first | with_reducible refine bokR ?_ | with_reducible refine Side.mk ?_); first | omega | (simp only [ln]; first | done | omega)) | constructor)) (Weak.kp (ht := by repeat' (first | exact rfl | (refine Side.mk (oslE ?_ ?_) <;> simp [loOf, hiOf] <;> omega) | constructor)) (huo := by repeat' (first | exact rfl | exact plainL_map _ (fun _ => rfl) _ | constructor))) ?_
  obtain ⟨PR, hPR⟩ : ∃ PR, nx.take (nx.length - 1) = PR := ⟨_, rfl⟩
  have hPl : nx.length - 1 = PR.length := by rw [← hPR, List.length_take]; omega
  have hmt : (nx.map fun x => sV x).take (nx.length - 1) = PR.map fun x => sV x := by rw [← hPR]; exact List.map_take.symm
  apply Trip.weak (S' := ⟨[(2, .ref 2 0), (6, .mref 16), (9, .mref 27), (10, .osl 900 0 (nx.length - 1) (nx.length - 1)), (11, sV X)], [(900, .arr 1 false ((nx.map fun x => sV x).take (nx.length - 1))), (27, .map (km.map strK) (bm.map fun b => bV b)), (16, .map (kc.map strK) (bc.map fun b => bV b)), (2, .box (Vw.cells ⟨nl, l, nr, rf, ng, lg, nc, cuts⟩))]⟩)
  ·refine Weak.shrink 900 1 (nx.length - 1) rfl (Side.mk (by simp)) (Side.mk (by rw [hmt]; exact plainL_map _ (fun _ => rfl) _)) rfl rfl rfl ?_ ?_
   ·repeat' (first | exact rfl | constructor)
   ·repeat' (first | exact rfl | exact plainL_map _ (fun _ => rfl) _ | constructor)
  rw [hmt, hPl]
  rw [hPR] at hx
  have hPn : nx.length = PR.length + 1 := by omega
  have hnm : ∀ y, y ∈ nx ↔ y = X ∨ y ∈ PR := fun y => by
   conv => lhs; rw [hx]
   rw [List.mem_append, List.mem_singleton]; exact Or.comm
  clear hx hPl hmt hX hPR
  refine Trip.seq (Trip.sR tblOk (by repeat' (first | exact rfl | (apply Rule.sem; intro hγ; with_reducible apply F_lookup (K := strK) (f := bV) (z := false) (zv := .bool false) tblOk hγ (hz := zBool) (hzf := fun _ _ _ => .v _ _)) | exact KeyLaw.str tblOk rfl rfl | ((with_reducible refine Side.mk ?_); omega) | constructor)) ?_)
  apply Trip.cond (.tmp rfl)
  ·intro h2
   have h2 : mval km bm false X = true := h2
   rw [hvm, hasS_iff] at h2
   refine Trip.exit ?_
   exact ⟨(met, PR), by exact ⟨hO.old hnm h2, by simp, by dsimp only; omega, hpm⟩, by first | omega | (dsimp only at *; omega), Weak.kp (ho := by repeat' (first | exact rfl | (dsimp only; simp only [hkm]) | constructor)) (huo := by repeat' (first | exact rfl | (dsimp only; simp only [hkm]) | exact plainL_map _ (fun _ => rfl) _ | constructor))⟩
  intro h2
  have h2 : mval km bm false X = false := h2
  rw [hvm] at h2
  have hXm : X ∉ met := fun k => by rw [(hasS_iff _ _).2 k] at h2; simp at h2
  have hkm2 := seenL_snoc met X
  rw [hkm] at hkm2
  dsimp only at hkm2
  have hXn : X ∈ nx := (hnm X).2 (.inl rfl)
  refine Trip.skip ?_
  have cG := cGet nl l X (by omega)
  have hm' : ∀ y, y ∈ met ++ [X] ↔ y = X ∨ y ∈ met := fun y => by rw [List.mem_append, List.mem_singleton]; exact Or.comm
  have hnd' : (met ++ [X]).Nodup := by
   rw [List.nodup_append]
   exact ⟨hO.nd, by simp, by intro a ha b hb; rw [List.mem_singleton] at hb; subst hb; intro e; subst e; exact hXm ha⟩
  have hmono := toCome_mono l cuts (met := met) (met' := met ++ [X]) (fun y hy => (hm' y).2 (.inr hy)) l
  cases hpl : placed l X with
  | false =>
   rw [hpl] at cG
   simp only [Bool.false_eq_true, if_false] at cG
   have hK : ¬ K = [] := fun e => by
    have := (hR.m2 X).2 ⟨hO.r2 X hXn, hpl⟩
    rw [e] at this
    simp at this
   rw [if_neg hK] at hLdef hEdef
   subst hLdef hEdef
   refine Trip.sR tblOk (by repeat' (first | exact rfl | (apply Rule.sem; intro hγ; with_reducible apply F_call0 (x := .func 35) (B := []) hγ (hspec := cG)) | ((with_reducible refine Side.mk ?_); exact .inl rfl) | constructor)) ?_
   refine Trip.seq (Trip.sr tblOk ?_)
   apply Trip.cond (.tmp rfl)
   ·intro h3
    clear h3
    refine Trip.sr tblOk ?_
    refine Trip.ret (rt2 [])
   intro h3
   exact absurd h3 (by decide)
  | true =>
   rw [hpl] at cG
   simp only [if_true] at cG
   have c2 := cLinks l[place l X]!.kind l[place l X]!.body
   have hN : nmAt l cuts X = if (hasS cuts X && decide (l[place l X]!.kind = 3)) = true then (linksOf l[place l X]!.kind l[place l X]!.body).take 1 else linksOf l[place l X]!.kind l[place l X]!.body := rfl
   rw [← hend X] at hN
   have hNl := nmAt_len l cuts X
   have hLl := linksOf_len l[place l X]!.kind l[place l X]!.body
   have hcome := toCome_new l cuts hm' hXm l (placed_mem hpl)
   have hon := hO.new (x := X) (next' := PR ++ nmAt l cuts X) (met' := met ++ [X]) (fun y hy => ((hnm y).1 hy).imp id fun k => List.mem_append_left _ k) (fun y hy => (List.mem_append.1 hy).imp (fun k => (hnm y).2 (.inr k)) fun k => ⟨hpl, k⟩) hXn hXm hm' hnd' (fun _ y hy => List.mem_append_right _ hy)
   generalize nmAt l cuts X = NM at *
   generalize l[place l X]!.kind = kk at *
   generalize l[place l X]!.body = bb at *
   generalize linksOf kk bb = LL at *
   generalize wholeE kk bb = we at *
   refine Trip.sR tblOk (by repeat' (first | exact rfl | (apply Rule.sem; intro hγ; with_reducible apply F_call0 (x := .func 35) (B := []) hγ (hspec := cG)) | ((with_reducible refine Side.mk ?_); exact .inl rfl) | constructor)) ?_
   refine Trip.seq (Trip.sr tblOk ?_)
   apply Trip.cond (.tmp rfl)
   ·intro h3
    exact absurd h3 (by decide)
   intro h3
   clear h3
   refine Trip.skip ?_
   refine Trip.rk ⟨[(2, .ref 2 0), (6, .mref 16), (9, .mref 27), (10, .osl 900 0 PR.length PR.length), (11, sV X), (12, .ref 12 0)], [(900, .arr 1 false (PR.map fun x => sV x)), (27, .map ((mkeys km X).map strK) ((mset km bm X true).map fun b => bV b)), (16, .map (kc.map strK) (bc.map fun b => bV b)), (12, .box [iV kk, sV bb]), (2, .box (Vw.cells ⟨nl, l, nr, rf, ng, lg, nc, cuts⟩))]⟩ tblOk (by repeat' (first | exact rfl | (apply Rule.sem; intro hγ; with_reducible apply F_mapUpdate (K := strK) (f := bV) tblOk hγ) | exact KeyLaw.str tblOk rfl rfl | ((with_reducible refine Side.mk ?_); omega) | constructor)) (Weak.kp (huo := by repeat' (first | exact rfl | exact plainL_map _ (fun _ => rfl) _ | constructor))) ?_
   refine Trip.sR tblOk (by repeat' (first | exact rfl | (apply Rule.sem; intro hγ; with_reducible apply F_call0 (x := .func 36) (B := []) hγ (hspec := c2)) | ((with_reducible refine Side.mk ?_); exact .inl rfl) | constructor)) ?_
   refine Trip.seqk ⟨[(2, .ref 2 0), (6, .mref 16), (9, .mref 27), (10, .osl 900 0 PR.length PR.length), (11, sV X), (14, .sl LL.isEmpty 1 (NM.map fun x => sV x))], [(900, .arr 1 false (PR.map fun x => sV x)), (27, .map ((mkeys km X).map strK) ((mset km bm X true).map fun b => bV b)), (16, .map (kc.map strK) (bc.map fun b => bV b)), (2, .box (Vw.cells ⟨nl, l, nr, rf, ng, lg, nc, cuts⟩))]⟩ ?_ ?_
   ·refine Trip.sR tblOk (by repeat' (first | exact rfl | (apply Rule.sem; intro hγ; with_reducible apply F_lookup (K := strK) (f := bV) (z := false) (zv := .bool false) tblOk hγ (hz := zBool) (hzf := fun _ _ _ => .v _ _)) | exact KeyLaw.str tblOk rfl rfl | ((with_reducible refine Side.mk ?_); first | omega | exact fun h => h | exact fun _ h => h) | constructor)) ?_
    apply Trip.cond (.tmp rfl)
    ·intro h4
     have h4 : (decide (kk = 3) && mval kc bc false X && decide (1 < (((LL.map fun x => sV x).length : Nat) : Int))) = true := h4
     rw [List.length_map] at h4
     simp only [Bool.and_eq_true, decide_eq_true_eq] at h4
     rw [if_pos (by simp [h4.1])] at hN
     subst hN
     rw [List.map_take]
     refine Trip.R tblOk (by repeat' (first | exact rfl | ((with_reducible refine bokR ?_); (simp only [ln]; first | done | omega)) | constructor)) ?_
     exact Weak.kp (huo := by repeat' (first | exact rfl | exact plainL_map _ (fun _ => rfl) _ | constructor))
    ·intro h4
     have h4 : (decide (kk = 3) && mval kc bc false X && decide (1 < (((LL.map fun x => sV x).length : Nat) : Int))) = false := h4
     rw [List.length_map] at h4
     have hN : NM = LL := by
      rw [hN]
      split
      ·rename_i h5
       rw [Bool.and_comm] at h5
       rw [h5] at h4
       simp at h4
       rw [List.take_of_length_le (by omega)]
      ·rfl
     subst hN
     refine Trip.skip ?_
     exact Weak.kp (huo := by repeat' (first | exact rfl | exact plainL_map _ (fun _ => rfl) _ | constructor))
   refine Trip.R tblOk (by repeat' (first | exact rfl | exact cellsOk_map _ (fun _ => rfl) _ | ((with_reducible refine Side.mk ?_); (simp only [ln]; first | done | omega)) | constructor)) ?_
   have hPN : (PR ++ NM).length = PR.length + NM.length := List.length_append
   exact ⟨(met ++ [X], PR ++ NM), by exact ⟨hon, by simp, by dsimp only; rw [List.length_append, List.length_append, List.length_singleton]; omega, fun x hx => ((hm' x).1 hx).elim (fun e => e ▸ hpl) (hpm x)⟩, by first | omega | (dsimp only at *; omega), Weak.kp (ht := by repeat' (first | exact rfl | (refine Side.mk ?_; dsimp only; refine oslE ?_ ?_ <;> simp; done) | constructor)) (ho := by repeat' (first | exact rfl | (refine Side.mk ?_; dsimp only; simp only [hkm2]; done) | (refine Side.mk ?_; dsimp only; exact arrF (by simp) (by simp)) | constructor)) (huo := by repeat' (first | exact rfl | exact plainL_map _ (fun _ => rfl) _ | constructor))⟩
 intro h
 have h : nx = [] := by simpa using h
 subst h
 have hK : K = [] := by
  rw [List.eq_nil_iff_forall_not_mem]
  intro x hx
  have := (hR.m2 x).1 hx
  rw [hpm x ((hO.done x).2 this.1)] at this
  simp at this
 have hH : H = sortS met := asc_unique hR.a1 (sortS_asc _) fun x => by
  rw [hR.m1, sortS_mem, hO.done]
  exact ⟨fun k => k.1, fun k => ⟨k, hpm x ((hO.done x).2 k)⟩⟩
 rw [if_pos hK, hH] at hLdef
 rw [if_pos hK] at hEdef
 have hSi := fun x => seenL_mem met x
 have hml : met.length ≤ l.length := by
  have := nodup_len (b := l.map (·.id)) hO.nd fun x hx => by
   have hp := placed_lt (hpm x hx)
   exact List.mem_map.2 ⟨_, bang_mem hp.1, hp.2⟩
  rw [List.length_map] at this
  exact this
 have hKl : (seenL met).1.length ≤ 1000000000 := Nat.le_trans (nodup_len (seenL_nodup met) fun x hx => (hSi x).1 hx) (by omega)
 have k1 := cKeysM ((seenL met).1.map strK) ((seenL met).2.map fun b => bV b)
 have k2 := cSortedK (seenL met).1 (seenL_nodup _) hKl (fun x hx => by
  have hp := placed_lt (hpm x ((hSi x).1 hx))
  have := hid _ (bang_mem hp.1)
  rw [hp.2] at this
  exact Nat.le_trans this (by decide))
 rw [msort_sortS (seenL_nodup met) hSi, isEmpty_mem (b := sortS met) fun x => by rw [hSi, sortS_mem]] at k2
 rw [← hLdef] at k2
 subst hEdef
 generalize (seenL met).1 = kn at *
 generalize (seenL met).2 = bn at *
 refine Trip.exit ?_
 apply Trip.weak (S' := ⟨[(9, .mp false (kn.map strK) (bn.map fun b => bV b))], [(2, .box (Vw.cells ⟨nl, l, nr, rf, ng, lg, nc, cuts⟩))]⟩)
 ·refine Weak.turnM [27] rfl rfl ?_ ?_
  all_goals repeat' (first | exact rfl | exact plainL_map _ (fun _ => rfl) _ | constructor)
 refine Trip.sR tblOk (by repeat' (first | exact rfl | (apply Rule.sem; intro hγ; with_reducible apply F_call0 (x := .func 28) (B := []) hγ (hspec := k1)) | (apply Rule.sem; intro hγ; with_reducible apply F_call0 (x := .func 27) (B := []) hγ (hspec := k2)) | exact .it | ((with_reducible refine Side.mk ?_); exact .inl rfl) | constructor)) ?_
 refine Trip.ret (rt2 [])
end Go.Proofs.Tryz
namespace Go.Proofs.Tryz
open Go Go.Sym Go.Graft
set_option maxRecDepth 20000
theorem cSame06 (na nb : Bool) (a b : List Str) (ha : a.length ≤ 1000000000) (hb : b.length ≤ 1000000000) : Ctr prog 11 [.sl na 1 (a.map fun x => sV x), .sl nb 1 (b.map fun x => sV x)] [] (bV (decide (a = b))) [] [] := by
 obtain ⟨r, hr⟩ : ∃ r, decide (a = b) = r := ⟨_, rfl⟩
 rw [hr]
 refine Ctr.enter tblOk func11 rfl (by decide) rfl (nt := 26) rfl rfl rfl rfl ?_
 refine Trip.sr tblOk ?_
 refine Trip.seq (Trip.sr tblOk ?_)
 apply Trip.cond (.tmp rfl)
 ·intro h
  have h : a.length ≠ b.length := by
   intro e
   simp [e] at h
  have hr : r = false := hr ▸ decide_eq_false (fun e : a = b => h (by rw [e]))
  subst hr
  refine Trip.sr tblOk ?_
  refine Trip.ret (rt1 [] (hc := by repeat' (exact cvB (by simp only [List.length_map]))))
 intro h
 have h : a.length = b.length := by simp at h; omega
 refine Trip.skip (Trip.seq (Trip.sr tblOk ?_))
 refine Trip.block ?_
 refine Trip.loop (fun (i : Nat) => ⟨[(0, .sl na 1 (a.map fun x => sV x)), (1, .sl nb 1 (b.map fun x => sV x)), (5, iV i)], []⟩) (fun (i : Nat) => i ≤ a.length ∧ a.take i = b.take i) (fun (i : Nat) => a.length - i) (0) (by exact ⟨Nat.zero_le _, rfl⟩) Weak.kp ?_
 rintro i ⟨hi, he⟩
 refine Trip.seq (Trip.sr tblOk ?_)
 apply Trip.cond (.tmp rfl)
 ·intro h2
  have h2 : i < a.length := by simp at h2; omega
  have h3 : i < b.length := by omega
  refine Trip.skip (Trip.seq (Trip.block (Trip.sD tblOk mixed (by repeat' (first | exact rfl | exact idx_map _ _ _ (by show _ < _; first | omega | (simp only [List.length_map] at *; omega)) | ((with_reducible refine Side.mk ?_); (simp only [ln]; first | done | omega)) | constructor)) ?_)))
  apply Trip.cond (.tmp rfl)
  ·intro h4
   have h4 : a[i]! ≠ b[i]! := by simpa using h4
   have hr : r = false := hr ▸ decide_eq_false (fun e : a = b => h4 (by rw [e]))
   subst hr
   refine Trip.sr tblOk ?_
   refine Trip.ret (rt1 [] (hc := by repeat' (exact cvB (by simp only [List.length_map]))))
  intro h4
  have h4 : a[i]! = b[i]! := by simpa using h4
  refine Trip.skip (Trip.R tblOk (by repeat' (first | exact rfl | ((with_reducible refine Side.mk ?_); omega) | constructor)) ?_)
  exact ⟨i + 1, by exact ⟨by omega, by rw [take_snoc a i h2, take_snoc b i h3, he, h4]⟩, by first | omega | (dsimp only at *; omega), Weak.kp⟩
 intro h2
 have h2 : i = a.length := by simp at h2; omega
 subst h2
 rw [List.take_length, h, List.take_length] at he
 have hr : r = true := hr ▸ decide_eq_true he
 subst hr
 refine Trip.exit (Trip.sr tblOk ?_)
 refine Trip.ret (rt1 [] (hc := by repeat' (exact cvB (by simp only [List.length_map]))))
theorem lsW : wholeP u3 [] [xB, y1] [] = true ∧ nmAt u3 [] y1 = [xB] ∧ nmAt u3 [] xB = [] ∧ placed u3 y1 = true ∧ placed u3 xB = true ∧ bl xB y1 = true ∧ xB ≠ y1 := by decide +kernel
theorem rchW : IsReach u3 [] [y1] [xB, y1] [] := by
 obtain ⟨_, n1, nB, p1, pB, o1, d1⟩ := lsW
 generalize u3 = u at *
 generalize y1 = c at *
 generalize xB = x at *
 refine mk_reach (met := [x, c]) (by simp [d1]) ?_ (by simp) ?_ (asc_pair o1) List.Pairwise.nil ?_ ?_
 ·intro y hy
  simp only [List.mem_cons, List.not_mem_nil, or_false] at hy
  rcases hy with rfl | rfl
  ·exact .inr ⟨p1, by rw [n1]; simp⟩
  ·exact .inl rfl
 ·intro y hy _ z hz
  simp only [List.mem_cons, List.not_mem_nil, or_false] at hy
  rcases hy with rfl | rfl
  ·rw [nB] at hz; simp at hz
  ·rw [n1] at hz; simp at hz; simp [hz]
 ·simp [List.filter_cons, p1, pB]
 ·simp [List.filter_cons, p1, pB]
def cmT (x : Str) : Com := (comP u3[place u3 x]!.body).2
theorem lsP : placed u3 y1 = true ∧ placed u3 y2 = true ∧ u3[place u3 y1]!.kind = 3 ∧ u3[place u3 y2]!.kind = 3 ∧ u3[place u3 y1]!.body.length ≤ 3000 ∧ u3[place u3 y2]!.body.length ≤ 3000 ∧ (cmT y2).pars = [y1] ∧ (cmT y1).pars = [] := by decide +kernel
theorem lsB : (∀ x ∈ u3, x.body.length ≤ 3000) ∧ (∀ x ∈ u3, x.id.length ≤ 100) := by decide +kernel
theorem lsN : y2 ≠ y1 ∧ y1.length = 40 ∧ y2.length = 40 ∧ y3.length = 40 := by decide +kernel
abbrev v0 : Vw := ⟨true, [], true, [], true, [], true, []⟩
abbrev vU (u : List It) : Vw := ⟨false, u, true, [], true, [], true, []⟩
abbrev vW (u : List It) (b : Str) : Vw := ⟨false, u, true, [], true, [], false, [b]⟩
set_option maxHeartbeats 1000000 in
theorem cDeepenX : Ctr prog 24 [(vU u3).pv, .sl false 1 [sV y2], iV 1] [] (.tup [.sl true 1 [], .sl false 1 [sV y1], iV 0]) [] [] := by
 obtain ⟨p1, p2, k1, k2, b1, b2, q2, q1⟩ := lsP
 have c1 := cOf false u3 y1 (by decide) p1 k1 (by omega) (cmT y1) rfl
 have c2 := cOf false u3 y2 (by decide) p2 k2 (by omega) (cmT y2) rfl
 have hn := lsN.1
 have hl1 := lsN.2.1
 generalize cmT y1 = m1 at *
 generalize cmT y2 = m2 at *
 have hsee : (seenL [y1]).1 = [y1] := seenL_nd (by simp)
 have hm1 : msort [y1] = [y1] := List.mergeSort_singleton _
 have h := cDeepenG (vU u3) (fun k => if k = 0 then [y2] else if k = 1 then [y1] else []) (fun k => if k = 0 then [] else if k = 1 then [y2] else [y2, y1]) (fun k => if k = 0 then [y1] else []) (fun k => if k < 2 then [] else [y1]) (fun k => if k = 0 then y2 else y1) (fun k => if k = 0 then m2 else m1)
  (fun k hk => by
   obtain rfl | rfl : k = 0 ∨ k = 1 := by omega
   ·exact c2
   ·exact c1)
  (fun k hk => by
   obtain rfl | rfl : k = 0 ∨ k = 1 := by omega
   ·exact q2
   ·exact q1)
  (fun k hk => by
   obtain rfl | rfl : k = 0 ∨ k = 1 := by omega
   ·rfl
   ·rfl) rfl
  (fun k hk => by
   obtain rfl | rfl : k = 0 ∨ k = 1 := by omega
   ·rfl
   ·rfl) rfl
  (fun k hk => by
   obtain rfl | rfl : k = 0 ∨ k = 1 := by omega
   ·rfl
   ·show hasS [y2] y1 = false
    simp [hasS]
    exact fun e => hn e.symm)
  (fun k hk => by
   obtain rfl | rfl : k = 0 ∨ k = 1 := by omega
   ·rfl
   ·rfl) rfl
  (fun k hk => by
   obtain rfl | rfl : k = 0 ∨ k = 1 := by omega
   ·show msort (seenL [y1]).1 = [y1] ∧ (seenL [y1]).1.isEmpty = false
    rw [hsee]
    exact ⟨hm1, rfl⟩
   ·exact ⟨List.mergeSort_nil, rfl⟩) rfl
  (fun k => by
   refine ⟨?_, ?_, ?_⟩
   ·split
    ·simp
    split <;> simp
   ·split <;> simp
   ·split <;> simp)
  (fun k x hx => by
   have hx : x ∈ (if k = 0 then [y1] else []) := hx
   split at hx
   ·simp at hx; subst hx; omega
   ·simp at hx) (by simp)
 rw [show msort ((fun k : Nat => if k < 2 then ([] : List Str) else [y1]) 2) = [y1] from hm1] at h
 exact h
end Go.Proofs.Tryz
namespace Go.Proofs.Tryz
open Go Go.Sym Go.Graft
set_option maxRecDepth 20000
set_option maxHeartbeats 4000000 in
theorem cLives47 : Ctr prog 8 [] [] (bV true) [] [] := by
 obtain ⟨hid, e0, h0, e2, h2, e3, h3⟩ := ls0
 obtain ⟨E1, L1, I1⟩ := ls1
 obtain ⟨E2, L2, I2⟩ := ls2
 obtain ⟨E3, L3, I3⟩ := ls3
 obtain ⟨C1, C2, C3⟩ := ls4
 obtain ⟨hn, n1, n2, n3⟩ := lsN
 have p1 := cPut47 v0 (fun _ => rfl) (by simp) true [] 1 (whoT 49) (cWhoT 1 49 cNumT1) (by decide) (by simp) (by simp) hid C1 u0 u1 y1 e0 h0 (by decide) E1 L1 I1
 have p2 := cPut47 (vU u1) (fun h => by simp at h) (by decide) false [y1] 2 (whoT 50) (cWhoT 2 50 cNumT2) (by decide) (by simp) (fun p hp => by rw [List.mem_singleton] at hp; subst hp; omega) hid C2 u1 u2 y2 e2 h2 (by decide) E2 L2 I2
 have p3 := cPut47 (vU u2) (fun h => by simp at h) (by decide) false [y2] 3 (whoT 51) (cWhoT 3 51 cNumT3) (by decide) (by simp) (fun p hp => by rw [List.mem_singleton] at hp; subst hp; omega) hid C3 u2 u3 y3 e3 h3 (by decide) E3 L3 I3
 obtain ⟨hb, hi⟩ := lsB
 have hi2 : ∀ x ∈ u3, x.id.length ≤ 1000000000 := fun x hx => Nat.le_trans (hi x hx) (by decide)
 have hb2 : ∀ x ∈ u3, x.body.length ≤ 100000000 := fun x hx => Nat.le_trans (hb x hx) (by decide)
 have d2 := cDepthS (vU u3) false [y3] 2 (by decide) (by decide) hb hi2 (by decide) (by decide)
 have d3 := cDepthS (vU u3) false [y3] 3 (by decide) (by decide) hb hi2 (by decide) (by decide)
 have d0 := cDepthS (vU u3) false [y3] 0 (by decide) (by decide) hb hi2 (by decide) (by decide)
 rw [show depAll (vU u3).l (vU u3).cuts [y3] 2 = ([y2, y3], [y2], 0) from ls7] at d2
 rw [show depAll (vU u3).l (vU u3).cuts [y3] 3 = ([y2, y3, y1], [], 0) from ls8] at d3
 rw [show depAll (vU u3).l (vU u3).cuts [y3] 0 = ([], [], 1) from rfl] at d0
 have dp := cDeepenX
 have pw := cParS (vW u3 y2) y2 (by decide) (by decide) hb2
 have e5 : rdP u3 [y2] y2 = [] := by rw [rdP, if_neg (by rw [ls5.2.1]; simp), if_pos (by simp [hasS])]
 rw [show rdP (vW u3 y2).l (vW u3 y2).cuts y2 = [] from e5, show rdE (vW u3 y2).l y2 = 0 from ls5.2.1] at pw
 have rw1 := cReachS (vW u3 y2) false [y3] (by decide) (by simp) hi2 (by simp) (by simp) [y2, xB, y3] [] rchS
 rw [show rchL [y2, xB, y3] [] = [y2, xB, y3] from rfl, show rchE [] = 0 from rfl] at rw1
 have st := cSet06 false [y2, y3] (by simp)
 rw [ls6.2.2.2] at st
 have s1 := cSame06 false false [y2, y3] [y2, y3] (by simp) (by simp)
 have s2 := cSame06 false false [y2] [y2] (by simp) (by simp)
 have s3 := cSame06 false false [y1] [y1] (by simp) (by simp)
 rw [decide_eq_true rfl] at s1 s2 s3
 obtain ⟨q1, q2, k1, k2, b1, b2, m2, m1⟩ := lsP
 have of1 := cOf false u3 y1 (by decide) q1 k1 (by omega) (cmT y1) rfl
 have of2 := cOf false u3 y2 (by decide) q2 k2 (by omega) (cmT y2) rfl
 have cW := cWholeP false false false u3 [] [y1] (by decide) (by simp) (by simp) (by simp) hb2 [xB, y1] [] rchW (by simp)
 rw [lsW.1] at cW
 have jn := cJoinX (vU u3) y2 y1 (cmT y2) (cmT y1) m2 of2 of1 cW
 clear of1 of2 cW q1 q2 k1 k2 b1 b2 m2 m1 hb hb2 hi hi2 hid e0 h0 e2 h2 e3 h3 E1 E2 E3 L1 L2 L3 I1 I2 I3 C1 C2 C3 e5 hn n1 n2 n3
 dsimp only [v0, vU, vW] at *
 simp only [List.map_nil, List.map_cons, List.isEmpty_nil, List.isEmpty_cons] at p1 p2 p3 d2 d3 d0 pw rw1 st s1 s2 s3 dp jn
 generalize u3 = u3 at *
 generalize u2 = u2 at *
 generalize u1 = u1 at *
 generalize y3 = y3 at *
 generalize y2 = y2 at *
 generalize y1 = y1 at *
 generalize xB = xB at *
 refine Ctr.enter tblOk func8 rfl (by decide) rfl (nt := 165) rfl rfl rfl rfl ?_
 refine Trip.sr tblOk ?_
 refine Trip.rk ⟨[(1, .ref 1 0), (2, sV y1)], [(1, .box [.sl false 3 (u1.map It.pv), .sl true 3 [], .sl true 2 [], .sl true 1 []])]⟩ tblOk (by repeat' (first | exact rfl | (apply Rule.sem; intro hγ; with_reducible apply F_call0 (x := .func 23) (B := []) hγ (hspec := p1)) | ((with_reducible refine Side.mk ?_); exact .inl rfl) | constructor)) Weak.kp ?_
 refine Trip.rk ⟨[(1, .ref 1 0), (2, sV y1), (3, sV y2)], [(1, .box [.sl false 3 (u2.map It.pv), .sl true 3 [], .sl true 2 [], .sl true 1 []])]⟩ tblOk (by repeat' (first | exact rfl | (apply Rule.sem; intro hγ; with_reducible apply F_callG (x := .func 23) (σ := []) (G := [30]) (news := []) hγ (hspec := p2)) | (with_reducible apply cvView (B := [30])) | constructor)) Weak.kp ?_
 refine Trip.rk ⟨[(1, .ref 1 0), (2, sV y1), (3, sV y2), (4, sV y3)], [(1, .box [.sl false 3 (u3.map It.pv), .sl true 3 [], .sl true 2 [], .sl true 1 []])]⟩ tblOk (by repeat' (first | exact rfl | (apply Rule.sem; intro hγ; with_reducible apply F_callG (x := .func 23) (σ := []) (G := [37]) (news := []) hγ (hspec := p3)) | (with_reducible apply cvView (B := [37])) | constructor)) Weak.kp ?_
 refine Trip.rk ⟨[(1, .ref 1 0), (2, sV y1), (3, sV y2), (4, sV y3), (5, .sl false 1 [sV y2, sV y3]), (6, .sl false 1 [sV y2]), (7, iV 0)], [(1, .box [.sl false 3 (u3.map It.pv), .sl true 3 [], .sl true 2 [], .sl true 1 []])]⟩ tblOk (by repeat' (first | exact rfl | (apply Rule.sem; intro hγ; with_reducible apply F_callG (x := .func 9) (σ := []) (G := [44]) (news := []) hγ (hspec := d2)) | (with_reducible apply cvView (B := [44])) | constructor)) Weak.kp ?_
 refine Trip.rk ⟨[(1, .ref 1 0), (2, sV y1), (3, sV y2), (4, sV y3), (5, .sl false 1 [sV y2, sV y3]), (6, .sl false 1 [sV y2]), (7, iV 0), (8, .sl false 1 [sV y2, sV y3, sV y1]), (9, .sl true 1 []), (10, iV 0)], [(1, .box [.sl false 3 (u3.map It.pv), .sl true 3 [], .sl true 2 [], .sl true 1 []])]⟩ tblOk (by repeat' (first | exact rfl | (apply Rule.sem; intro hγ; with_reducible apply F_callG (x := .func 9) (σ := []) (G := [52]) (news := []) hγ (hspec := d3)) | (with_reducible apply cvView (B := [52])) | constructor)) Weak.kp ?_
 refine Trip.rk ⟨[(1, .ref 1 0), (2, sV y1), (3, sV y2), (4, sV y3), (5, .sl false 1 [sV y2, sV y3]), (6, .sl false 1 [sV y2]), (7, iV 0), (8, .sl false 1 [sV y2, sV y3, sV y1]), (9, .sl true 1 []), (10, iV 0), (13, iV 1)], [(1, .box [.sl false 3 (u3.map It.pv), .sl true 3 [], .sl true 2 [], .sl true 1 []])]⟩ tblOk (by repeat' (first | exact rfl | (apply Rule.sem; intro hγ; with_reducible apply F_callG (x := .func 9) (σ := []) (G := [60]) (news := []) hγ (hspec := d0)) | (with_reducible apply cvView (B := [60])) | constructor)) Weak.kp ?_
 refine Trip.rk ⟨[(1, .ref 1 0), (2, sV y1), (3, sV y2), (4, sV y3), (5, .sl false 1 [sV y2, sV y3]), (6, .sl false 1 [sV y2]), (7, iV 0), (8, .sl false 1 [sV y2, sV y3, sV y1]), (9, .sl true 1 []), (10, iV 0), (13, iV 1), (14, .sl true 1 []), (15, .sl false 1 [sV y1]), (16, iV 0)], [(1, .box [.sl false 3 (u3.map It.pv), .sl true 3 [], .sl true 2 [], .sl true 1 []])]⟩ tblOk (by repeat' (first | exact rfl | (apply Rule.sem; intro hγ; with_reducible apply F_callG (x := .func 24) (σ := []) (G := [68]) (news := []) hγ (hspec := dp)) | (with_reducible apply cvView (B := [68])) | constructor)) Weak.kp ?_
 refine Trip.sr tblOk ?_
 refine Trip.sr tblOk ?_
 apply Trip.weak (S' := ⟨[(1, .ref 1 0), (2, sV y1), (3, sV y2), (4, sV y3), (5, .sl false 1 [sV y2, sV y3]), (6, .sl false 1 [sV y2]), (7, iV 0), (8, .sl false 1 [sV y2, sV y3, sV y1]), (9, .sl true 1 []), (10, iV 0), (13, iV 1), (14, .sl true 1 []), (15, .sl false 1 [sV y1]), (16, iV 0), (17, .ref 17 0)], [(17, .box [.sl false 3 (u3.map It.pv), .sl true 3 [], .sl true 2 [], .sl false 1 [sV y2]]), (1, .box [.sl false 3 (u3.map It.pv), .sl true 3 [], .sl true 2 [], .sl true 1 []])]⟩)
 ·refine Weak.turnM [75] rfl rfl ?_ ?_
  all_goals repeat' (first | exact rfl | constructor)
 refine Trip.rk ⟨[(1, .ref 1 0), (2, sV y1), (3, sV y2), (4, sV y3), (5, .sl false 1 [sV y2, sV y3]), (6, .sl false 1 [sV y2]), (7, iV 0), (8, .sl false 1 [sV y2, sV y3, sV y1]), (9, .sl true 1 []), (10, iV 0), (13, iV 1), (14, .sl true 1 []), (15, .sl false 1 [sV y1]), (16, iV 0), (17, .ref 17 0), (18, .sl true 1 []), (19, iV 0)], [(17, .box [.sl false 3 (u3.map It.pv), .sl true 3 [], .sl true 2 [], .sl false 1 [sV y2]]), (1, .box [.sl false 3 (u3.map It.pv), .sl true 3 [], .sl true 2 [], .sl true 1 []])]⟩ tblOk (by repeat' (first | exact rfl | (apply Rule.sem; intro hγ; with_reducible apply F_call0 (x := .func 14) (B := []) hγ (hspec := pw)) | ((with_reducible refine Side.mk ?_); exact .inl rfl) | constructor)) Weak.kp ?_
 refine Trip.rk ⟨[(1, .ref 1 0), (2, sV y1), (3, sV y2), (4, sV y3), (5, .sl false 1 [sV y2, sV y3]), (6, .sl false 1 [sV y2]), (7, iV 0), (8, .sl false 1 [sV y2, sV y3, sV y1]), (9, .sl true 1 []), (10, iV 0), (13, iV 1), (14, .sl true 1 []), (15, .sl false 1 [sV y1]), (16, iV 0), (18, .sl true 1 []), (19, iV 0), (20, .sl false 1 [sV y2, sV xB, sV y3]), (21, iV 0)], [(1, .box [.sl false 3 (u3.map It.pv), .sl true 3 [], .sl true 2 [], .sl true 1 []])]⟩ tblOk (by repeat' (first | exact rfl | (apply Rule.sem; intro hγ; with_reducible apply F_callG (x := .func 12) (σ := []) (G := [86]) (news := []) hγ (hspec := rw1)) | (with_reducible apply cvView (B := [86])) | constructor)) Weak.kp ?_
 refine Trip.sR tblOk (by repeat' (first | exact rfl | (apply Rule.sem; intro hγ; with_reducible apply F_callG (x := .func 16) (σ := []) (G := [93]) (news := []) hγ (hspec := st)) | (with_reducible apply cvView (B := [93])) | (apply Rule.sem; intro hγ; with_reducible apply F_call0 (dst := some 95) (x := .func 11) (B := []) hγ (hspec := s1)) | (apply Rule.sem; intro hγ; with_reducible apply F_call0 (dst := some 100) (x := .func 11) (B := [99]) hγ (hspec := s2)) | (apply Rule.sem; intro hγ; with_reducible apply F_call0 (dst := some 133) (x := .func 11) (B := [132]) hγ (hspec := s3)) | (apply Rule.sem; intro hγ; with_reducible apply F_call0 (x := .func 25) (B := [160]) hγ (hspec := jn)) | ((with_reducible refine Side.mk ?_); first | exact .inl rfl | exact .inr ⟨rfl, rfl, rfl⟩) | constructor)) ?_
 refine Trip.ret (rt1 [] (hc := by repeat' (exact cvB rfl)))
end Go.Proofs.Tryz
