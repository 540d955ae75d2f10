/- A part of the proof: Wg, Wn. -/
import Derived.Test.YteailifhgfijgaaGreatDoorPart44
set_option linter.unusedVariables false
set_option linter.unusedSimpArgs false
namespace Go.Proofs.Tryz
open Go Go.Sym Go.Graft
set_option maxRecDepth 20000
theorem slE {nl : Bool} {sz : Nat} {es es2 : List PV} (h : es = es2) : PV.sl nl sz es = PV.sl nl sz es2 := by rw [h]
def nxN (PR met NM : List Str) (j : Nat) : List Str := sortS (PR ++ (NM.take j).filter fun x => !hasS met x)
theorem nxN_zero {PR : List Str} (met NM : List Str) (h : asc PR) : nxN PR met NM 0 = PR := by
 rw [nxN, List.take_zero, List.filter_nil, List.append_nil, sortS_self h]
theorem nxN_next (PR met NM : List Str) {j : Nat} (hj : j < NM.length) : nxN PR met NM (j + 1) = if hasS met NM[j]! = true then nxN PR met NM j else insS (nxN PR met NM j) NM[j]! := by
 rw [nxN, take_snoc NM j hj, List.filter_append, ← List.append_assoc]
 split
 ·rename_i h; rw [List.filter_cons_of_neg (by rw [h]; simp), List.filter_nil, List.append_nil]; rfl
 ·rename_i h; rw [List.filter_cons_of_pos (by simpa using h), List.filter_nil, sortS_snoc2]; rfl
theorem nxN_mem (PR met NM : List Str) (y : Str) : y ∈ nxN PR met NM NM.length ↔ y ∈ PR ∨ (y ∈ NM ∧ y ∉ met) := by
 rw [nxN, sortS_mem, List.mem_append, List.mem_filter, List.take_length]
 refine or_congr Iff.rfl (and_congr Iff.rfl ?_)
 rw [← hasS_iff]
 cases hasS met y <;> simp
theorem nxN_len (PR met NM : List Str) (j : Nat) : (nxN PR met NM j).length ≤ PR.length + NM.length := by
 have h1 := sortS_le (PR ++ (NM.take j).filter fun x => !hasS met x)
 have h2 := List.length_filter_le (fun x => !hasS met x) (NM.take j)
 rw [List.length_append] at h1
 rw [List.length_take] at h2
 rw [nxN]; omega
theorem onway_new2 {l : List It} {cuts frm met next next' met' : List Str} {x : Str} (h : Onway l cuts frm met next) (hn : ∀ y, y ∈ next → y = x ∨ y ∈ next') (hn2 : ∀ y, y ∈ next' → y ∈ next ∨ (placed l x = true ∧ y ∈ nmAt l cuts x)) (hxn : x ∈ next)
  (hm : ∀ y, y ∈ met' ↔ y = x ∨ y ∈ met) (hnd : met'.Nodup) (hc : placed l x = true → ∀ y ∈ nmAt l cuts x, y ∈ met' ∨ y ∈ next') : Onway l cuts frm met' next' where
 nd := hnd
 r1 := fun y hy => ((hm y).1 hy).elim (fun e => e ▸ h.r2 x hxn) (h.r1 y)
 r2 := fun y hy => (hn2 y hy).elim (h.r2 y) fun k => .step (h.r2 x hxn) k.1 k.2
 f := fun y hy => (h.f y hy).elim (fun k => .inl ((hm y).2 (.inr k))) fun k => (hn y k).elim (fun e => .inl ((hm y).2 (.inl e))) .inr
 c := fun y hy hp z hz => ((hm y).1 hy).elim (fun e => by subst e; exact hc hp z hz) fun k => (h.c y k hp z hz).elim (fun k => .inl ((hm z).2 (.inr k))) fun k => (hn z k).elim (fun e => .inl ((hm z).2 (.inl e))) .inr
theorem onway_sorted (l : List It) (cuts frm : List Str) : Onway l cuts frm [] (sortS frm) :=
 ⟨List.nodup_nil, by simp, fun x h => .start ((sortS_mem _ _).1 h), fun x h => .inr ((sortS_mem _ _).2 h), by simp⟩
set_option maxHeartbeats 2000000 in
theorem cReachR (v : Vw) (nf : Bool) (fr0 : List Str) (hs : v.l.length ≤ 500) (hc : v.cuts.length ≤ 1000000000) (hl1 : ∀ x ∈ v.l, x.kind = 3 → 1 ≤ (linksOf x.kind x.body).length) (hf : fr0.length ≤ 100000000) (H K : List Str) (hR : IsReach v.l v.cuts fr0 H K) :
  Ctr prog 13 [v.pv, .sl nf 1 (fr0.map fun x => sV x)] [] (.tup [.sl (rchL H K).isEmpty 1 ((rchL H K).map fun x => sV x), iV (rchE K)]) [] [] := by
 obtain ⟨nl, l, nr, rf, ng, lg, nc, cuts⟩ := v
 dsimp only at *
 have hLdef : rchL H K = if K = [] then H else [] := rfl
 have hEdef : rchE K = if K = [] then 0 else 171 := rfl
 generalize rchL H K = RL at *
 generalize rchE K = RE at *
 have c1 := cSet06 nf fr0 hf
 have hW := toCome_le l cuts [] l
 have hO0 := onway_sorted l cuts fr0
 have hS0 := sortS_le fr0
 have hA0 := sortS_asc fr0
 generalize sortS fr0 = S0 at *
 generalize decide (fr0.length = 0) = ne0 at *
 refine Ctr.enter tblOk func13 rfl (by decide) rfl (nt := 72) rfl rfl rfl rfl ?_
 refine Trip.sr tblOk ?_
 refine Trip.sr tblOk ?_
 refine Trip.rk ⟨[(2, .ref 2 0), (6, nilS), (7, .sl ne0 1 (S0.map fun x => sV x))], [(2, .box (Vw.cells ⟨nl, l, nr, rf, ng, lg, nc, cuts⟩))]⟩ tblOk (by repeat' (first | exact rfl | (apply Rule.sem; intro hγ; with_reducible apply F_call0 (x := .func 16) (B := []) hγ (hspec := c1)) | ((with_reducible refine Side.mk ?_); exact .inl rfl) | constructor)) Weak.kp ?_
 apply Trip.weak (S' := ⟨[(2, .ref 2 0), (6, .sl true 1 []), (7, .sl ne0 1 (S0.map fun x => sV x))], [(2, .box (Vw.cells ⟨nl, l, nr, rf, ng, lg, nc, cuts⟩))]⟩)
 ·refine Weak.turn [] rfl rfl ?_ ?_
  ·repeat' (first | exact rfl | constructor)
  ·repeat' (first | exact rfl | exact plainL_map _ (fun _ => rfl) _ | constructor)
 refine Trip.seq (Trip.block ?_)
 refine Trip.loop (fun (q : List Str × Bool × List Str) => ⟨[(2, .ref 2 0), (6, .sl (sortS q.1).isEmpty 1 ((sortS q.1).map fun x => sV x)), (7, .sl q.2.1 1 (q.2.2.map fun x => sV x))], [(2, .box (Vw.cells ⟨nl, l, nr, rf, ng, lg, nc, cuts⟩))]⟩) (fun (q : List Str × Bool × List Str) => Onway l cuts fr0 q.1 q.2.2 ∧ asc q.2.2 ∧ (∀ x ∈ q.2.2, x ∉ q.1) ∧ toCome l cuts q.1 l + q.2.2.length ≤ 700000000 ∧ ∀ x ∈ q.1, placed l x = true) (fun (q : List Str × Bool × List Str) => toCome l cuts q.1 l + q.2.2.length) (([], ne0, S0)) (by exact ⟨hO0, hA0, by simp, by dsimp only; omega, by simp⟩) Weak.kp ?_
 rintro ⟨met, fl, nx⟩ ⟨hO, hA, hnm, hto, hpm⟩
 dsimp only at *
 have hml : met.length ≤ l.length := by
  have := nodup_len (b := l.map (·.id)) hO.nd fun x hx => by
   have hp := placed_lt (hpm x hx)
   exact List.mem_map.2 ⟨_, bang_mem hp.1, hp.2⟩
  rw [List.length_map] at this
  exact this
 have hsl := sortS_le met
 have hsa := sortS_asc met
 refine Trip.seq (Trip.sr tblOk ?_)
 apply Trip.cond (.tmp rfl)
 ·intro h
  cases nx with
  | nil => simp at h
  | cons X PR =>
  clear h
  rw [asc, List.pairwise_cons] at hA
  obtain ⟨hXP, hPA⟩ := hA
  have hXm := hnm X List.mem_cons_self
  have hsn := sortS_snoc2 met X
  have c2 := cAdd06 (sortS met).isEmpty (sortS met) X hsa (by omega)
  have hine := insS_ne (sortS met) X
  rw [← hsn] at c2 hine
  rw [← hine] at c2
  have hm' : ∀ y, y ∈ met ++ [X] ↔ y = X ∨ y ∈ met := fun y => by rw [List.mem_append, List.mem_singleton]; exact Or.comm
  have hnd' : (met ++ [X]).Nodup := by
   rw [List.nodup_append]
   exact ⟨hO.nd, by simp, by intro a ha b hb; rw [List.mem_singleton] at hb; subst hb; intro e; subst e; exact hXm ha⟩
  have hsl2 := sortS_le (met ++ [X])
  rw [List.length_append, List.length_singleton] at hsl2
  have cG := cGet17 nl l X (by omega)
  have hlx : placed l X = true → l[place l X]!.kind = 3 → 1 ≤ (linksOf l[place l X]!.kind l[place l X]!.body).length := fun hp => hl1 _ (bang_mem (placed_lt hp).1)
  have hXn : X ∈ X :: PR := List.mem_cons_self
  have hPX : X ∉ PR := fun k => absurd (hXP X k) (by rw [bl_irr]; simp)
  clear hsn
  generalize sortS met = s0 at *
  generalize hs1 : sortS (met ++ [X]) = s1 at *
  have c3 := fun y => cHas06 s1.isEmpty s1 y (by omega)
  have h13 : ∀ y, hasS s1 y = hasS (met ++ [X]) y := fun y => by rw [Bool.eq_iff_iff, hasS_iff, hasS_iff, ← hs1, sortS_mem]
  refine Trip.skip (Trip.block (Trip.sR tblOk (by repeat' (first | exact rfl | ((with_reducible refine Side.mk ?_); (simp only [ln]; first | done | omega)) | constructor)) ?_))
  refine Trip.rk ⟨[(2, .ref 2 0), (6, .sl s0.isEmpty 1 (s0.map fun x => sV x)), (7, .sl fl 1 (PR.map fun x => sV x)), (8, sV X)], [(2, .box (Vw.cells ⟨nl, l, nr, rf, ng, lg, nc, cuts⟩))]⟩ tblOk (by repeat' (first | exact rfl | ((with_reducible refine bokL ?_); (simp only [ln]; first | done | omega)) | constructor)) (Weak.kp (ht := by repeat' (first | exact rfl | exact Side.mk (slE (by simp [hiOf, loOf, List.take_of_length_le])) | constructor))) ?_
  refine Trip.sR tblOk (by repeat' (first | exact rfl | (apply Rule.sem; intro hγ; with_reducible apply F_call0 (x := .func 33) (B := []) hγ (hspec := c2)) | ((with_reducible refine Side.mk ?_); exact .inl rfl) | constructor)) ?_
  cases hpl : placed l X with
  | false =>
   rw [hpl] at cG
   simp only [Bool.false_eq_true, if_false] at cG
   have hK : ¬ K = [] := fun e => by
    have := (hR.m2 X).2 ⟨hO.r2 X hXn, hpl⟩
    rw [e] at this
    simp at this
   rw [if_neg hK] at hLdef hEdef
   subst hLdef hEdef
   refine Trip.sR tblOk (by repeat' (first | exact rfl | (apply Rule.sem; intro hγ; with_reducible apply F_call0 (x := .func 18) (B := []) hγ (hspec := cG)) | ((with_reducible refine Side.mk ?_); exact .inl rfl) | constructor)) ?_
   refine Trip.seq (Trip.sr tblOk ?_)
   apply Trip.cond (.tmp rfl)
   ·intro h3
    clear h3
    refine Trip.sr tblOk ?_
    refine Trip.ret (rt2 [])
   intro h3
   exact absurd h3 (by decide)
  | true =>
   rw [hpl] at cG
   simp only [if_true] at cG
   have hlx := hlx hpl
   have c4 := cLinks16 l[place l X]!.kind l[place l X]!.body
   have hN : nmAt l cuts X = if (hasS cuts X && decide (l[place l X]!.kind = 3)) = true then (linksOf l[place l X]!.kind l[place l X]!.body).take 1 else linksOf l[place l X]!.kind l[place l X]!.body := rfl
   have c5 := cHas06 nc cuts X (by omega)
   have hNl := nmAt_len l cuts X
   have hcome := toCome_new l cuts hm' hXm l (placed_mem hpl)
   have hon := onway_new2 hO (x := X) (next' := nxN PR (met ++ [X]) (nmAt l cuts X) (nmAt l cuts X).length) (met' := met ++ [X]) (fun y hy => (List.mem_cons.1 hy).imp id fun k => (nxN_mem _ _ _ y).2 (.inl k)) (fun y hy => ((nxN_mem _ _ _ y).1 hy).imp (fun k => List.mem_cons_of_mem _ k) fun k => ⟨hpl, k.1⟩) hXn hm' hnd' (fun _ y hy => by
    by_cases h : y ∈ met ++ [X]
    ·exact .inl h
    ·exact .inr ((nxN_mem _ _ _ y).2 (.inr ⟨hy, h⟩)))
   have hnn : ∀ y ∈ nxN PR (met ++ [X]) (nmAt l cuts X) (nmAt l cuts X).length, y ∉ met ++ [X] := fun y hy => by
    rcases (nxN_mem _ _ _ y).1 hy with k | k
    ·intro e
     rcases (hm' y).1 e with rfl | e
     ·exact hPX k
     ·exact hnm y (List.mem_cons_of_mem _ k) e
    ·exact k.2
   generalize nmAt l cuts X = NM at *
   generalize l[place l X]!.kind = kk at *
   generalize l[place l X]!.body = bb at *
   generalize linksOf kk bb = LL at *
   generalize wholeE kk bb = we at *
   generalize hasS cuts X = cx at *
   refine Trip.sR tblOk (by repeat' (first | exact rfl | (apply Rule.sem; intro hγ; with_reducible apply F_call0 (x := .func 18) (B := []) hγ (hspec := cG)) | ((with_reducible refine Side.mk ?_); exact .inl rfl) | constructor)) ?_
   refine Trip.seq (Trip.sr tblOk ?_)
   apply Trip.cond (.tmp rfl)
   ·intro h3
    exact absurd h3 (by decide)
   intro h3
   clear h3
   refine Trip.skip (Trip.sR tblOk (by repeat' (first | exact rfl | (apply Rule.sem; intro hγ; with_reducible apply F_call0 (x := .func 19) (B := []) hγ (hspec := c4)) | ((with_reducible refine Side.mk ?_); exact .inl rfl) | constructor)) ?_)
   refine Trip.seqk ⟨[(2, .ref 2 0), (6, .sl s1.isEmpty 1 (s1.map fun x => sV x)), (7, .sl fl 1 (PR.map fun x => sV x)), (11, .sl LL.isEmpty 1 (NM.map fun x => sV x))], [(2, .box (Vw.cells ⟨nl, l, nr, rf, ng, lg, nc, cuts⟩))]⟩ ?_ ?_
   ·refine Trip.sR tblOk (by repeat' (first | exact rfl | (apply Rule.sem; intro hγ; with_reducible apply F_call0 (x := .func 17) (B := []) hγ (hspec := c5)) | ((with_reducible refine Side.mk ?_); first | exact .inl rfl | exact fun h => h | exact fun _ h => h) | constructor)) ?_
    apply Trip.cond (.tmp rfl)
    ·intro h4
     have h4 : (decide (kk = 3) && cx) = true := h4
     have h5 := h4
     simp only [Bool.and_eq_true, decide_eq_true_eq] at h5
     have hlx := hlx h5.1
     rw [Bool.and_comm] at h4
     rw [if_pos h4] at hN
     subst hN
     rw [List.map_take]
     refine Trip.R tblOk (by repeat' (first | exact rfl | ((with_reducible refine bokR ?_); (simp only [ln]; first | done | omega)) | constructor)) ?_
     exact Weak.kp
    ·intro h4
     have h4 : (decide (kk = 3) && cx) = false := h4
     rw [Bool.and_comm] at h4
     rw [h4] at hN
     simp only [Bool.false_eq_true, if_false] at hN
     subst hN
     refine Trip.skip ?_
     exact Weak.kp
   clear hN
   refine Trip.sr tblOk ?_
   refine Trip.block ?_
   have hz := nxN_zero (met ++ [X]) NM hPA
   have hnx := fun j hj => nxN_next PR (met ++ [X]) NM (j := j) hj
   have hnl := fun j => nxN_len PR (met ++ [X]) NM j
   have hna : ∀ j, asc (nxN PR (met ++ [X]) NM j) := fun j => by rw [nxN]; exact sortS_asc _
   refine Trip.loop (fun (q : Nat × Bool) => ⟨[(2, .ref 2 0), (6, .sl s1.isEmpty 1 (s1.map fun x => sV x)), (7, .sl q.2 1 ((nxN PR (met ++ [X]) NM q.1).map fun x => sV x)), (11, .sl LL.isEmpty 1 (NM.map fun x => sV x)), (13, iV q.1)], [(2, .box (Vw.cells ⟨nl, l, nr, rf, ng, lg, nc, cuts⟩))]⟩) (fun (q : Nat × Bool) => q.1 ≤ NM.length) (fun (q : Nat × Bool) => NM.length - q.1) ((0, fl)) (by exact Nat.zero_le _) (Weak.kp (ht := by repeat' (first | exact rfl | (refine Side.mk ?_; dsimp only; rw [hz]) | constructor))) ?_
   rintro ⟨j, fl2⟩ hj
   dsimp only at *
   refine Trip.seq (Trip.sr tblOk ?_)
   apply Trip.cond (.tmp rfl)
   ·intro h6
    have h6 : j < NM.length := by simp at h6; omega
    have c3 := c3 NM[j]!
    rw [h13] at c3
    have hnx := hnx j h6
    have hnl := hnl j
    have hna := hna j
    generalize hq2 : nxN PR (met ++ [X]) NM (j + 1) = q2 at *
    generalize nxN PR (met ++ [X]) NM j = q1 at *
    have c6 := cAdd06 fl2 q1 NM[j]! hna (by rw [List.length_cons] at hto; omega)
    generalize hasS (met ++ [X]) NM[j]! = hb at *
    refine Trip.skip (Trip.seq (Trip.block (Trip.sR tblOk (by repeat' (first | exact rfl | (apply Rule.sem; intro hγ; with_reducible apply F_call0 (x := .func 17) (B := []) hγ (hspec := c3)) | exact idx_map _ _ _ (by show _ < _; first | omega | (simp only [List.length_map] at *; omega)) | ((with_reducible refine Side.mk ?_); first | exact .inl rfl | (simp only [ln]; first | done | omega)) | constructor)) ?_)))
    apply Trip.cond (.tmp rfl)
    ·intro h7
     have h7 : ¬ hb = true := by simpa using h7
     rw [if_neg h7] at hnx
     subst hnx
     refine Trip.R tblOk (by repeat' (first | exact rfl | (apply Rule.sem; intro hγ; with_reducible apply F_call0 (x := .func 33) (B := []) hγ (hspec := c6)) | exact idx_map _ _ _ (by show _ < _; first | omega | (simp only [List.length_map] at *; omega)) | ((with_reducible refine Side.mk ?_); first | exact .inl rfl | (simp only [ln]; first | done | omega)) | constructor)) ?_
     refine Trip.R tblOk (by repeat' (first | exact rfl | ((with_reducible refine Side.mk ?_); omega) | constructor)) ?_
     exact ⟨(j + 1, false), by first | omega | (dsimp only at *; omega), by first | omega | (dsimp only at *; omega), Weak.kp (ht := by repeat' (first | exact rfl | (dsimp only; rw [hq2]; rfl) | constructor))⟩
    ·intro h7
     have h7 : hb = true := by simpa using h7
     rw [if_pos h7] at hnx
     subst hnx
     refine Trip.skip (Trip.R tblOk (by repeat' (first | exact rfl | ((with_reducible refine Side.mk ?_); omega) | constructor)) ?_)
     exact ⟨(j + 1, fl2), by first | omega | (dsimp only at *; omega), by first | omega | (dsimp only at *; omega), Weak.kp (ht := by repeat' (first | exact rfl | (dsimp only; rw [hq2]; rfl) | constructor))⟩
   intro h6
   have h6 : j = NM.length := by simp at h6; omega
   subst h6
   refine Trip.exit ?_
   have hnl := hnl NM.length
   have hna := hna NM.length
   generalize nxN PR (met ++ [X]) NM NM.length = q2 at *
   have hxl : (X :: PR).length = PR.length + 1 := rfl
   exact ⟨(met ++ [X], fl2, q2), by exact ⟨hon, hna, hnn, by dsimp only; omega, fun x hx => ((hm' x).1 hx).elim (fun e => e ▸ hpl) (hpm x)⟩, by first | omega | (dsimp only at *; omega), Weak.kp (ht := by repeat' (first | exact rfl | (refine Side.mk ?_; dsimp only; rw [hs1]; done) | constructor))⟩
 intro h
 have h : nx = [] := by
  have : nx.length = 0 := by simp at h; simp [h]
  exact List.length_eq_zero_iff.1 this
 subst h
 have hK : K = [] := by
  rw [List.eq_nil_iff_forall_not_mem]
  intro x hx
  have := (hR.m2 x).1 hx
  rw [hpm x ((hO.done x).2 this.1)] at this
  simp at this
 have hH : H = sortS met := asc_unique hR.a1 (sortS_asc _) fun x => by
  rw [hR.m1, sortS_mem, hO.done]
  exact ⟨fun k => k.1, fun k => ⟨k, hpm x ((hO.done x).2 k)⟩⟩
 rw [if_pos hK, hH] at hLdef
 rw [if_pos hK] at hEdef
 subst hLdef hEdef
 refine Trip.exit (Trip.sr tblOk ?_)
 refine Trip.ret (rt2 [])
end Go.Proofs.Tryz
namespace Go.Proofs.Tryz
open Go Go.Sym Go.Graft
set_option maxRecDepth 20000
theorem depAll_len (l : List It) (cuts wants : List Str) (n : Int) (hl : l.length ≤ 1000) (hb : ∀ x ∈ l, x.body.length ≤ 3000) (hw : wants.length ≤ 1000) : (depAll l cuts wants n).1.length ≤ 100000000 ∧ (depAll l cuts wants n).2.1.length ≤ 100000000 := by
 have hall := allP_len l hb
 have key : ∀ (r : Nat) (level met : List Str), (∀ x ∈ level, x ∈ wants ++ allP l) → level.length ≤ 1000 + l.length * 3000 → (∀ x ∈ met, x ∈ wants ++ allP l) → asc met → (depR l cuts r level met).1.length ≤ 100000000 ∧ (depR l cuts r level met).2.1.length ≤ 100000000 := by
  intro r
  induction r with
  | zero =>
   intro level met h1 h2 h3 h4
   have := nodup_len (asc_nodup h4) h3
   rw [List.length_append] at this
   rw [depR]; exact ⟨by dsimp only; omega, by simp⟩
  | succ r ih =>
   intro level met h1 h2 h3 h4
   have hm := nodup_len (asc_nodup h4) h3
   rw [List.length_append] at hm
   have hs := sortS_le (met ++ level)
   rw [List.length_append] at hs
   have he := sortS_le (level.filter fun x => !(rdP l cuts x).isEmpty)
   have hf := List.length_filter_le (fun x => !(rdP l cuts x).isEmpty) level
   rw [depR]
   split
   ·exact ⟨by dsimp only; omega, by simp⟩
   split
   ·simp
   split
   ·exact ⟨by dsimp only; omega, by dsimp only; rw [endsR]; omega⟩
   ·refine ih _ _ (fun x hx => List.mem_append_right _ (nextR_mem hx)) ?_ (fun x hx => ?_) (sortS_asc _)
    ·have := nextR_len hb cuts level (sortS (met ++ level)); omega
    ·rw [sortS_mem, List.mem_append] at hx
     exact hx.elim (h3 x) (h1 x)
 rw [depAll]
 split
 ·simp
 ·exact key _ _ _ (fun x hx => List.mem_append_left _ hx) (by omega) (by simp) List.Pairwise.nil
theorem cShallowDepths (v : Vw) (nw : Bool) (wants : List Str) (n : Int) (hn : n ≤ 9223372036854775807) : Ctr prog 3 [v.pv, .sl nw 1 (wants.map fun x => sV x), iV n] [] (bV true) [] [] := by
 have c := cLives47
 have c1 := cRight47 v
 have hg := fun h : rightV v = true => rightV_gives h
 generalize rightV v = r at *
 have cd := fun (h : r = true) (hw : wants.length ≤ 8) => cDepthS v nw wants n (by have := (hg h).1; omega) (by have := (hg h).2.1; omega) (hg h).2.2.1 (fun x hx => Nat.le_trans ((right_gives (hg h).2.2.2).1 x hx) (by decide)) (by omega) hn
 have ce := fun (h : r = true) (hw : wants.length ≤ 8) => cDepthR v nw wants n (by have := (hg h).1; omega) (by have := (hg h).2.1; omega) (hg h).2.2.1 (by omega) hn
 have hl := fun (h : r = true) (hw : wants.length ≤ 8) => depAll_len v.l v.cuts wants n (by have := (hg h).1; omega) (hg h).2.2.1 (by omega)
 generalize depAll v.l v.cuts wants n = D at *
 clear hg
 obtain ⟨nl, l, nr, rf, ng, lg, nc, cuts⟩ := v
 refine Ctr.enter tblOk func3 rfl (by decide) rfl (nt := 54) rfl rfl rfl rfl ?_
 refine Trip.sr tblOk ?_
 refine Trip.seq (Trip.sR tblOk (by repeat' (first | exact rfl | (apply Rule.sem; intro hγ; with_reducible apply F_call0 (x := .func 7) (B := []) hγ (hspec := c1)) | ((with_reducible refine Side.mk ?_); first | exact .inl rfl | exact fun h => h | exact fun _ h => congrArg Bool.not h) | constructor)) ?_)
 apply Trip.cond (.tmp rfl)
 ·intro h
  refine Trip.sR tblOk (by repeat' (first | exact rfl | (apply Rule.sem; intro hγ; with_reducible apply F_call0 (x := .func 8) (B := []) hγ (hspec := c)) | ((with_reducible refine Side.mk ?_); exact .inl rfl) | constructor)) ?_
  refine Trip.ret (rt1 [] (hc := by repeat' (exact cvB (by simp only [List.length_map]))))
 intro h
 have h : r = true ∧ wants.length ≤ 8 := by
  cases r with
  | false => simp at h
  | true => simp at h; exact ⟨rfl, by omega⟩
 have cd := cd h.1 h.2
 have ce := ce h.1 h.2
 have hl := hl h.1 h.2
 have s1 := cSame06 D.1.isEmpty D.1.isEmpty D.1 D.1 (by omega) (by omega)
 have s2 := cSame06 D.2.1.isEmpty D.2.1.isEmpty D.2.1 D.2.1 (by omega) (by omega)
 rw [decide_eq_true rfl] at s1 s2
 refine Trip.skip (Trip.sR tblOk (by repeat' (first | exact rfl | (apply Rule.sem; intro hγ; with_reducible apply F_call0 (x := .func 9) (B := []) hγ (hspec := cd)) | ((with_reducible refine Side.mk ?_); exact .inl rfl) | constructor)) ?_)
 refine Trip.sR tblOk (by repeat' (first | exact rfl | (apply Rule.sem; intro hγ; with_reducible apply F_call0 (x := .func 10) (B := []) hγ (hspec := ce)) | ((with_reducible refine Side.mk ?_); exact .inl rfl) | constructor)) ?_
 refine Trip.sR tblOk (by repeat' (first | exact rfl | (apply Rule.sem; intro hγ; with_reducible apply F_call0 (x := .func 8) (B := []) hγ (hspec := c)) | (apply Rule.sem; intro hγ; with_reducible apply F_call0 (dst := some 42) (x := .func 11) (B := []) hγ (hspec := s1)) | (apply Rule.sem; intro hγ; with_reducible apply F_call0 (dst := some 47) (x := .func 11) (B := []) hγ (hspec := s2)) | ((with_reducible refine Side.mk ?_); exact .inl rfl) | constructor)) ?_
 refine Trip.ret (rt1 [] (hc := by repeat' (exact cvB (by simp))))
theorem cShallowReaches (v : Vw) (nf : Bool) (frm : List Str) (id : Str) (hnf : nf = true → frm = []) : Ctr prog 4 [v.pv, .sl nf 1 (frm.map fun x => sV x), sV id] [] (bV true) [] [] := by
 have c := cLives47
 have c1 := cRight47 v
 have hg := fun h : rightV v = true => rightV_gives h
 generalize rightV v = r at *
 obtain ⟨H, K, hR⟩ := reach_ex v.l v.cuts frm
 have cd := fun (h : r = true) (hw : frm.length ≤ 8) => cReachS v nf frm (by have := (hg h).1; omega) (by have := (hg h).2.1; omega) (fun x hx => Nat.le_trans ((right_gives (hg h).2.2.2).1 x hx) (by decide)) (by omega) hnf H K hR
 have ce := fun (h : r = true) (hw : frm.length ≤ 8) => cReachR v nf frm (by have := (hg h).1; omega) (by have := (hg h).2.1; omega) (right_gives (hg h).2.2.2).2 (by omega) H K hR
 have cp := fun (h : r = true) => cParS v id (by have := (hg h).1; omega) (by have := (hg h).2.1; omega) (fun x hx => Nat.le_trans ((hg h).2.2.1 x hx) (by decide))
 have cq := fun (h : r = true) => cShowR v id (by have := (hg h).1; omega) (by have := (hg h).2.1; omega) (fun x hx => Nat.le_trans ((hg h).2.2.1 x hx) (by decide))
 have hl2 := fun (h : r = true) => rdP_len v.l v.cuts id (hg h).2.2.1
 have hl1 : r = true → (rchL H K).length ≤ 1000000000 := fun h => by
  have hH : H.length ≤ v.l.length := by
   have := nodup_len (b := v.l.map (·.id)) (asc_nodup hR.a1) fun x hx => by
    have hp := placed_lt ((hR.m1 x).1 hx).2
    exact List.mem_map.2 ⟨_, bang_mem hp.1, hp.2⟩
   rw [List.length_map] at this
   exact this
  have := (hg h).1
  rw [rchL]
  split
  ·omega
  ·simp
 generalize rchL H K = RL at *
 generalize rchE K = RE at *
 generalize rdP v.l v.cuts id = ps at *
 generalize rdE v.l id = ee at *
 clear hg hR
 obtain ⟨nl, l, nr, rf, ng, lg, nc, cuts⟩ := v
 refine Ctr.enter tblOk func4 rfl (by decide) rfl (nt := 69) rfl rfl rfl rfl ?_
 refine Trip.sr tblOk ?_
 refine Trip.seq (Trip.sR tblOk (by repeat' (first | exact rfl | (apply Rule.sem; intro hγ; with_reducible apply F_call0 (x := .func 7) (B := []) hγ (hspec := c1)) | ((with_reducible refine Side.mk ?_); first | exact .inl rfl | exact fun h => h | exact fun _ h => congrArg Bool.not h) | constructor)) ?_)
 apply Trip.cond (.tmp rfl)
 ·intro h
  refine Trip.sR tblOk (by repeat' (first | exact rfl | (apply Rule.sem; intro hγ; with_reducible apply F_call0 (x := .func 8) (B := []) hγ (hspec := c)) | ((with_reducible refine Side.mk ?_); exact .inl rfl) | constructor)) ?_
  refine Trip.ret (rt1 [] (hc := by repeat' (exact cvB (by simp only [List.length_map]))))
 intro h
 have h : r = true ∧ frm.length ≤ 8 := by
  cases r with
  | false => simp at h
  | true => simp at h; exact ⟨rfl, by omega⟩
 have cd := cd h.1 h.2
 have ce := ce h.1 h.2
 have cp := cp h.1
 have cq := cq h.1
 have hl1 := hl1 h.1
 have hl2 := hl2 h.1
 have s1 := cSame06 RL.isEmpty RL.isEmpty RL RL (by omega) (by omega)
 have s2 := cSame06 ps.isEmpty ps.isEmpty ps ps (by omega) (by omega)
 rw [decide_eq_true rfl] at s1 s2
 refine Trip.skip (Trip.sR tblOk (by repeat' (first | exact rfl | (apply Rule.sem; intro hγ; with_reducible apply F_call0 (x := .func 12) (B := []) hγ (hspec := cd)) | ((with_reducible refine Side.mk ?_); exact .inl rfl) | constructor)) ?_)
 refine Trip.sR tblOk (by repeat' (first | exact rfl | (apply Rule.sem; intro hγ; with_reducible apply F_call0 (x := .func 13) (B := []) hγ (hspec := ce)) | ((with_reducible refine Side.mk ?_); exact .inl rfl) | constructor)) ?_
 refine Trip.sR tblOk (by repeat' (first | exact rfl | (apply Rule.sem; intro hγ; with_reducible apply F_call0 (x := .func 14) (B := []) hγ (hspec := cp)) | ((with_reducible refine Side.mk ?_); exact .inl rfl) | constructor)) ?_
 refine Trip.sR tblOk (by repeat' (first | exact rfl | (apply Rule.sem; intro hγ; with_reducible apply F_call0 (x := .func 15) (B := []) hγ (hspec := cq)) | ((with_reducible refine Side.mk ?_); exact .inl rfl) | constructor)) ?_
 refine Trip.sR tblOk (by repeat' (first | exact rfl | (apply Rule.sem; intro hγ; with_reducible apply F_call0 (x := .func 8) (B := []) hγ (hspec := c)) | (apply Rule.sem; intro hγ; with_reducible apply F_call0 (dst := some 52) (x := .func 11) (B := []) hγ (hspec := s1)) | (apply Rule.sem; intro hγ; with_reducible apply F_call0 (dst := some 62) (x := .func 11) (B := []) hγ (hspec := s2)) | ((with_reducible refine Side.mk ?_); first | exact .inl rfl | exact fun h => h | exact fun _ h => h) | constructor)) ?_
 refine Trip.ret (rt1 [] (hc := by repeat' (exact cvB (by simp))))
end Go.Proofs.Tryz
