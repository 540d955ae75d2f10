/- A part of the proof: Wp. -/
import Derived.Test.YteailifhgfijgaaGreatDoorPart46
set_option linter.unusedVariables false
set_option linter.unusedSimpArgs false
namespace Go.Proofs.Tryz
open Go Go.Sym Go.Graft
set_option maxRecDepth 20000
abbrev comV (c : Com) : PV := c.pv c.pars.isEmpty
theorem repZC : ∀ (w : World) (F : Nat → Prop) (L : LMap), Rep w F L (comV zeroCom) zComV := fun _ _ _ =>
 .agg (.cons (.v _ _) (.cons (.slNil _ _) (.cons (.v _ _) (.cons (.v _ _) (.cons (.v _ _) (.cons (.v _ _) (.cons (.v _ _) (.cons (.v _ _) (.cons (.v _ _) (.cons (.v _ _) (.cons (.v _ _) (.nil _))))))))))))
abbrev capsV : List PV := [.ref PN 0, .ref (PN + 1) 0, .ref (PN + 2) 0]
abbrev mpK (met : List Str) : List Value := met.map strK
abbrev mpV (l : List It) (cuts met : List Str) : List PV := (met.map (rdC l cuts)).map comV
abbrev thO (v : Vw) (met : List Str) : List SObj := [.box [.mref (PN + 3)], .box v.cells, .box [.clo (.func 75) [] capsV], .map (mpK met) (mpV v.l v.cuts met)]
theorem plMV (l : List It) (cuts met : List Str) : plainL (mpV l cuts met) = true := plainL_map _ (fun _ => rfl) _
theorem mkeys_new {met : List Str} {x : Str} (h : x ∉ met) : mkeys met x = met ++ [x] := by
 rw [mkeys, kidx_none.2 h]
theorem mset_new {met : List Str} {cs : List Com} {x : Str} (c : Com) (h : x ∉ met) : mset met cs x c = cs ++ [c] := by
 rw [mset, kidx_none.2 h]
abbrev thN (v : Vw) (met : List Str) : List (Nat × SObj) := [(PN, .box [.mref (PN + 3)]), (PN + 1, .box v.cells), (PN + 2, .box [.clo (.func 75) [] capsV]), (PN + 3, .map (mpK met) (mpV v.l v.cuts met))]
set_option maxHeartbeats 4000000 in
theorem cVisit1 (v : Vw) (hs : v.l.length ≤ 1000000000) (hc : v.cuts.length ≤ 1000000000) (hb : ∀ x ∈ v.l, x.body.length ≤ 100000000) (g : List Str → Str → List Str × Int) (p : List Str → Prop) (met : List Str) (x : Str)
  (hp0 : rdE v.l x = 0 → x ∉ met → p (met ++ [x])) (hp : rdE v.l x = 0 → x ∉ met → ∀ m y, p m → p (g m y).1) (hg : rdE v.l x = 0 → x ∉ met → ∀ m y, p m → Ctr prog 75 (sV y :: capsV) (thO v m) (iV (g m y).2) (thO v (g m y).1) []) (R : List Str × Int)
  (hR : R = if hasS met x = true then (met, 0) else if rdE v.l x ≠ 0 then (met, rdE v.l x) else visA g (met ++ [x]) (rdP v.l v.cuts x)) :
  Ctr prog 75 (sV x :: capsV) (thO v met) (iV R.2) (thO v R.1) [] := by
 have c1 := cRead v x hs hc hb
 obtain ⟨nl, l, nr, rf, ng, lg, nc, cuts⟩ := v
 dsimp only at *
 have hP := rdC_pars l cuts x
 have hmv : ∀ C, rdC l cuts x = C → x ∉ met → mset met (met.map (rdC l cuts)) x C = (met ++ [x]).map (rdC l cuts) := fun C hC hx => by rw [mset_new _ hx, List.map_append, ← hC]; rfl
 have hl0 : met.length = (met.map (rdC l cuts)).length := by rw [List.length_map]
 have hmh : mhas met x = hasS met x := by rw [Bool.eq_iff_iff, mhas_iff, hasS_iff]
 generalize hC : rdC l cuts x = C at *
 have hmv := hmv C rfl
 rw [← hP] at hR
 clear hP
 have hpl : C.pars.length ≤ 100000000 := by
  rw [← hC, rdC_pars, rdP]
  split
  ·simp
  split
  ·simp
  ·rename_i h _
   have hp := rdE_placed (l := l) (id := x) (by simpa using h)
   have := comR_len l[place l x]!.body
   rw [com_same]
   exact Nat.le_trans this (hb _ (bang_mem (placed_lt hp).1))
 generalize hE : rdE l x = E at *
 refine Ctr.enter tblOk func75 rfl (by decide) rfl (nt := 46) rfl rfl rfl rfl ?_
 refine Trip.sr tblOk ?_
 refine Trip.seq ?_
 refine Trip.rk ⟨[(0, sV x), (1, .ref PN 0), (2, .ref (PN + 1) 0), (3, .ref (PN + 2) 0), (7, bV (hasS met x))], thN ⟨nl, l, nr, rf, ng, lg, nc, cuts⟩ met⟩ tblOk (by repeat' (first | exact rfl | (apply Rule.sem; intro hγ; with_reducible apply F_lookupOk (K := strK) (f := comV) (z := zeroCom) (zv := zComV) tblOk hγ (hz := zCom) (hzf := repZC)) | exact KeyLaw.str tblOk rfl rfl | ((with_reducible refine Side.mk ?_); omega) | constructor)) (Weak.kp (ht := by repeat' (first | exact rfl | ((with_reducible refine Side.mk ?_); rw [hmh]; done) | constructor)) (huo := by repeat' (first | exact rfl | exact plMV _ _ _ | constructor))) ?_
 refine Trip.sr tblOk ?_
 apply Trip.cond (.tmp rfl)
 ·intro h
  have h : hasS met x = true := h
  rw [if_pos h] at hR
  subst hR
  refine Trip.sr tblOk ?_
  refine Trip.ret ?_
  apply Ret1o
  ·repeat' (first | exact rfl | constructor)
  ·repeat' (first | exact rfl | constructor)
  ·repeat' (first | exact rfl | exact plMV _ _ _ | exact convL_plain rfl | constructor)
  ·repeat' constructor
 intro h
 have h : hasS met x = false := h
 have hx : x ∉ met := fun k => by rw [(hasS_iff _ _).2 k] at h; simp at h
 rw [if_neg (by rw [h]; simp)] at hR
 refine Trip.skip ?_
 refine Trip.rk ⟨[(0, sV x), (1, .ref PN 0), (2, .ref (PN + 1) 0), (3, .ref (PN + 2) 0), (8, .ref 8 0), (9, iV E)], (8, .box (C.pv C.pars.isEmpty).cells) :: thN ⟨nl, l, nr, rf, ng, lg, nc, cuts⟩ met⟩ tblOk (by repeat' (first | exact rfl | (apply Rule.sem; intro hγ; with_reducible apply F_call0 (x := .func 53) (B := []) hγ (hspec := c1)) | ((with_reducible refine Side.mk ?_); exact .inl rfl) | constructor)) (Weak.kp (huo := by repeat' (first | exact rfl | exact plainL_map _ (fun _ => rfl) _ | constructor))) ?_
 refine Trip.seq (Trip.sr tblOk ?_)
 apply Trip.cond (.tmp rfl)
 ·intro h2
  have h2 : E ≠ 0 := by simpa using h2
  rw [if_pos h2] at hR
  subst hR
  refine Trip.sr tblOk ?_
  refine Trip.ret ?_
  apply Ret1o
  ·repeat' (first | exact rfl | constructor)
  ·repeat' (first | exact rfl | constructor)
  ·repeat' (first | exact rfl | exact plMV _ _ _ | exact convL_plain rfl | constructor)
  ·repeat' constructor
 intro h2
 have h2 : E = 0 := by simpa using h2
 rw [if_neg (fun k => k h2)] at hR
 have hp0 := hp0 h2 hx
 have hp := hp h2 hx
 have hg := hg h2 hx
 have hmv := hmv hx
 have hmk := mkeys_new hx
 refine Trip.skip ?_
 refine Trip.rk ⟨[(3, .ref (PN + 2) 0), (8, .ref 8 0)], (8, .box (C.pv C.pars.isEmpty).cells) :: thN ⟨nl, l, nr, rf, ng, lg, nc, cuts⟩ (met ++ [x])⟩ tblOk (by repeat' (first | exact rfl | (apply Rule.sem; intro hγ; with_reducible apply F_mapUpdate (K := strK) (f := comV) (u := C) tblOk hγ) | exact KeyLaw.str tblOk rfl rfl | ((with_reducible refine Side.mk ?_); omega) | constructor)) (Weak.kp (ho := by repeat' (first | exact rfl | ((with_reducible refine Side.mk ?_); rw [hmk, hmv]; done) | constructor)) (huo := by repeat' (first | exact rfl | exact plMV _ _ _ | constructor))) ?_
 refine Trip.seq (Trip.sr tblOk ?_)
 refine Trip.block ?_
 refine Trip.loop (fun (j : Nat) => ⟨[(3, .ref (PN + 2) 0), (33, .sl C.pars.isEmpty 1 (C.pars.map sV)), (34, iV C.pars.length), (35, iV j)], thN ⟨nl, l, nr, rf, ng, lg, nc, cuts⟩ (visA g (met ++ [x]) (C.pars.take j)).1⟩) (fun (j : Nat) => j ≤ C.pars.length ∧ (visA g (met ++ [x]) (C.pars.take j)).2 = 0 ∧ p (visA g (met ++ [x]) (C.pars.take j)).1) (fun (j : Nat) => C.pars.length - j) (0) (by exact ⟨Nat.zero_le _, by rw [List.take_zero]; rfl, by rw [List.take_zero]; exact hp0⟩) (Weak.kp (ht := by repeat' (first | exact rfl | (refine vI ?_; first | omega | (simp; done) | (simp; omega) | (simp only [List.length_map] at *; omega)) | constructor)) (huo := by repeat' (first | exact rfl | exact plainL_map _ (fun _ => rfl) _ | constructor))) ?_
 rintro j ⟨hj, hj0, hjp⟩
 refine Trip.sr tblOk ?_
 refine Trip.seq ?_
 apply Trip.cond (.tmp rfl)
 ·intro h3
  have h3 : j < C.pars.length := by simp at h3; omega
  have hst := visA_snoc g C.pars (met ++ [x]) h3 hj0
  have hbad := visA_bad g C.pars (met ++ [x]) h3 hj0
  have hpn := hp _ C.pars[j]! hjp
  have cg := hg _ C.pars[j]! hjp
  generalize hM1 : visA g (met ++ [x]) (C.pars.take (j + 1)) = M1 at *
  generalize visA g (met ++ [x]) (C.pars.take j) = M0 at *
  generalize g M0.1 C.pars[j]! = Y at *
  subst hst
  refine Trip.skip (Trip.seq (Trip.block (Trip.sR tblOk (by repeat' (first | exact rfl | exact idx_map _ _ _ (by show _ < _; first | omega | (simp only [List.length_map] at *; omega)) | ((with_reducible refine Side.mk ?_); (simp only [ln]; first | done | omega)) | constructor)) ?_)))
  refine Trip.sR tblOk (by repeat' (first | exact rfl | (apply Rule.sem; intro hγ; with_reducible apply F_load tblFOk hγ) | (apply Rule.sem; intro hγ; with_reducible apply F_call (x := .tmp 39) (σ := [PN,PN+1,PN+2,PN+3]) (B := []) (news := []) hγ (hspec := cg)) | exact convL_plain (by assumption) | exact plMV _ _ _ | ((with_reducible refine Side.mk ?_); exact .inl rfl) | constructor)) ?_
  refine Trip.sr tblOk ?_
  apply Trip.cond (.tmp rfl)
  ·intro h4
   have h4 : M1.2 ≠ 0 := by simpa using h4
   rw [hbad h4] at hR
   subst hR
   refine Trip.sr tblOk ?_
   refine Trip.ret ?_
   apply Ret1o
   ·repeat' (first | exact rfl | constructor)
   ·repeat' (first | exact rfl | constructor)
   ·repeat' (first | exact rfl | exact plMV _ _ _ | exact convL_plain rfl | constructor)
   ·repeat' constructor
  intro h4
  have h4 : M1.2 = 0 := by simpa using h4
  refine Trip.skip (Trip.R tblOk (by repeat' (first | exact rfl | ((with_reducible refine Side.mk ?_); omega) | constructor)) ?_)
  exact ⟨j + 1, by exact ⟨h3, by rw [hM1]; exact h4, by rw [hM1]; exact hpn⟩, by first | omega | (dsimp only at *; omega), Weak.kp (ho := by repeat' (first | exact rfl | (rw [hM1]; rfl) | constructor)) (huo := by repeat' (first | exact rfl | exact plMV _ _ _ | constructor))⟩
 intro h3
 have h3 : j = C.pars.length := by simp at h3; omega
 subst h3
 rw [List.take_length] at hj0 ⊢
 generalize visA g (met ++ [x]) C.pars = Z at *
 subst hR
 rw [hj0]
 refine Trip.exit (Trip.sr tblOk ?_)
 refine Trip.ret ?_
 apply Ret1o
 ·repeat' (first | exact rfl | constructor)
 ·repeat' (first | exact rfl | constructor)
 ·repeat' (first | exact rfl | exact plMV _ _ _ | exact convL_plain rfl | constructor)
 ·repeat' constructor
theorem cVisit (v : Vw) (hs : v.l.length ≤ 1000000000) (hc : v.cuts.length ≤ 1000000000) (hb : ∀ x ∈ v.l, x.body.length ≤ 100000000) : ∀ (n : Nat) (met : List Str) (x : Str), met.Nodup → todoN v.l met ≤ n →
  Ctr prog 75 (sV x :: capsV) (thO v met) (iV (vis v.l v.cuts n met x).2) (thO v (vis v.l v.cuts n met x).1) [] := by
 intro n
 induction n with
 | zero =>
  intro met x hn ht
  have key : rdE v.l x = 0 → x ∉ met → False := fun h1 h2 => h2 ((hasS_iff _ _).1 (todoN_zero (by omega) (rdE_placed h1)))
  refine cVisit1 v hs hc hb (fun m _ => (m, 0)) (fun _ => True) met x (fun h1 h2 => (key h1 h2).elim) (fun h1 h2 => (key h1 h2).elim) (fun h1 h2 => (key h1 h2).elim) _ ?_
  rw [vis]
  split
  ·rfl
  ·rename_i h
   rw [if_pos (fun h1 => key h1 fun k => h ((hasS_iff _ _).2 k))]
 | succ n ih =>
  intro met x hn ht
  refine cVisit1 v hs hc hb (vis v.l v.cuts n) (fun m => m.Nodup ∧ todoN v.l m ≤ n) met x (fun h1 h2 => ⟨?_, ?_⟩) (fun h1 h2 m y hm => ?_) (fun h1 h2 m y hm => ih m y hm.1 hm.2) _ rfl
  ·rw [List.nodup_append]
   exact ⟨hn, by simp, by intro a ha b hb; rw [List.mem_singleton] at hb; subst hb; intro e; subst e; exact h2 ha⟩
  ·have := todoN_new h2 (placed_mem (rdE_placed h1)); omega
  ·have P := vis_P v.l v.cuts n m y hm.1 hm.2
   exact ⟨P.nd, Nat.le_trans (todoN_mono P.sub) hm.2⟩
def ancK (r : List Str × Int) : List Str := if r.2 = 0 then r.1 else []
set_option maxHeartbeats 4000000 in
theorem cThrough (v : Vw) (nf : Bool) (frm : List Str) (hs : v.l.length ≤ 1000000000) (hc : v.cuts.length ≤ 1000000000) (hb : ∀ x ∈ v.l, x.body.length ≤ 100000000) (hf : frm.length ≤ 1000000000) :
  Ctr prog 42 [v.pv, .sl nf 1 (frm.map fun x => sV x)] [] (.tup [.mp (decide ((ancs v.l v.cuts frm).2 ≠ 0)) (mpK (ancK (ancs v.l v.cuts frm))) (mpV v.l v.cuts (ancK (ancs v.l v.cuts frm))), iV (ancs v.l v.cuts frm).2]) [] [] := by
 have hg := cVisit v hs hc hb v.l.length
 have hR : ancs v.l v.cuts frm = visA (vis v.l v.cuts v.l.length) [] frm := rfl
 have hp : ∀ m y, (m.Nodup ∧ todoN v.l m ≤ v.l.length) → (vis v.l v.cuts v.l.length m y).1.Nodup ∧ todoN v.l (vis v.l v.cuts v.l.length m y).1 ≤ v.l.length := fun m y hm => by
  have P := vis_P v.l v.cuts v.l.length m y hm.1 hm.2
  exact ⟨P.nd, Nat.le_trans (todoN_mono P.sub) hm.2⟩
 have hp0 : ([] : List Str).Nodup ∧ todoN v.l [] ≤ v.l.length := ⟨List.nodup_nil, todoN_le _ _⟩
 have hg : ∀ m y, (m.Nodup ∧ todoN v.l m ≤ v.l.length) → Ctr prog 75 (sV y :: capsV) (thO v m) (iV (vis v.l v.cuts v.l.length m y).2) (thO v (vis v.l v.cuts v.l.length m y).1) [] := fun m y hm => hg m y hm.1 hm.2
 obtain ⟨nl, l, nr, rf, ng, lg, nc, cuts⟩ := v
 dsimp only at *
 generalize vis l cuts l.length = g at *
 generalize ancs l cuts frm = R at *
 generalize hpp : (fun m : List Str => m.Nodup ∧ todoN l m ≤ l.length) = p
 have hp0 : p [] := by subst hpp; exact hp0
 have hp : ∀ m y, p m → p (g m y).1 := by subst hpp; exact hp
 have hg : ∀ m y, p m → Ctr prog 75 (sV y :: capsV) (thO ⟨nl, l, nr, rf, ng, lg, nc, cuts⟩ m) (iV (g m y).2) (thO ⟨nl, l, nr, rf, ng, lg, nc, cuts⟩ (g m y).1) [] := by subst hpp; exact hg
 clear hpp
 refine Ctr.enter tblOk func42 rfl (by decide) rfl (nt := 27) rfl rfl rfl rfl ?_
 refine Trip.sr tblOk ?_
 refine Trip.sR tblOk (by repeat' (first | exact rfl | (apply Rule.sem; intro hγ; with_reducible apply F_makeMap) | constructor)) ?_
 refine Trip.sR tblOk (by repeat' (first | exact rfl | (apply Rule.sem; intro hγ; with_reducible apply F_alloc tblFOk) | constructor)) ?_
 refine Trip.sR tblOk (by repeat' (first | exact rfl | (apply Rule.sem; intro hγ; with_reducible apply F_store tblFOk hγ) | constructor)) ?_
 refine Trip.seq (Trip.sr tblOk ?_)
 refine Trip.block ?_
 refine Trip.loop (fun (j : Nat) => ⟨[(6, .ref 6 0), (7, .ref 7 0), (13, .sl nf 1 (frm.map fun x => sV x)), (14, iV frm.length), (15, iV j)], [(2, .box (Vw.cells ⟨nl, l, nr, rf, ng, lg, nc, cuts⟩)), (6, .box [.mref 11]), (7, .box [.clo (.func 75) [] [.ref 6 0, .ref 2 0, .ref 7 0]]), (11, .map (mpK (visA g [] (frm.take j)).1) (mpV l cuts (visA g [] (frm.take j)).1))]⟩) (fun (j : Nat) => j ≤ frm.length ∧ (visA g [] (frm.take j)).2 = 0 ∧ p (visA g [] (frm.take j)).1) (fun (j : Nat) => frm.length - j) (0) (by exact ⟨Nat.zero_le _, by rw [List.take_zero]; rfl, by rw [List.take_zero]; exact hp0⟩) (Weak.kp (ht := by repeat' (first | exact rfl | (refine vI ?_; first | omega | (simp; done) | (simp; omega) | (simp only [List.length_map] at *; omega)) | constructor))) ?_
 rintro j ⟨hj, hj0, hjp⟩
 refine Trip.sr tblOk ?_
 refine Trip.seq ?_
 apply Trip.cond (.tmp rfl)
 ·intro h3
  have h3 : j < frm.length := by simp at h3; omega
  have hst := visA_snoc g frm [] h3 hj0
  have hbad := visA_bad g frm [] h3 hj0
  have hpn := hp _ frm[j]! hjp
  have cg := hg _ frm[j]! hjp
  generalize hM1 : visA g [] (frm.take (j + 1)) = M1 at *
  generalize visA g [] (frm.take j) = M0 at *
  generalize g M0.1 frm[j]! = Y at *
  subst hst
  refine Trip.skip (Trip.seq (Trip.block (Trip.sR tblOk (by repeat' (first | exact rfl | exact idx_map _ _ _ (by show _ < _; first | omega | (simp only [List.length_map] at *; omega)) | ((with_reducible refine Side.mk ?_); (simp only [ln]; first | done | omega)) | constructor)) ?_)))
  refine Trip.sR tblOk (by repeat' (first | exact rfl | (apply Rule.sem; intro hγ; with_reducible apply F_load tblFOk hγ) | (apply Rule.sem; intro hγ; with_reducible apply F_call (x := .tmp 19) (σ := [6,2,7,11]) (B := []) (news := []) hγ (hspec := cg)) | exact convL_plain (by assumption) | exact plMV _ _ _ | ((with_reducible refine Side.mk ?_); exact .inl rfl) | constructor)) ?_
  refine Trip.sr tblOk ?_
  apply Trip.cond (.tmp rfl)
  ·intro h4
   have h4 : M1.2 ≠ 0 := by simpa using h4
   rw [hbad h4] at hR
   subst hR
   rw [decide_eq_true h4, ancK, if_neg h4]
   refine Trip.sr tblOk ?_
   refine Trip.ret (rt2 [] (hc := by repeat' (exact .nilM)))
  intro h4
  have h4 : M1.2 = 0 := by simpa using h4
  refine Trip.skip (Trip.R tblOk (by repeat' (first | exact rfl | ((with_reducible refine Side.mk ?_); omega) | constructor)) ?_)
  exact ⟨j + 1, by exact ⟨h3, by rw [hM1]; exact h4, by rw [hM1]; exact hpn⟩, by first | omega | (dsimp only at *; omega), Weak.kp (ho := by repeat' (first | exact rfl | (rw [hM1]; rfl) | constructor)) (huo := by repeat' (first | exact rfl | exact plMV _ _ _ | constructor))⟩
 intro h3
 have h3 : j = frm.length := by simp at h3; omega
 subst h3
 rw [List.take_length] at hj0 ⊢
 rw [← hR] at hj0 ⊢
 rw [hj0, ancK, if_pos hj0]
 refine Trip.exit (Trip.sr tblOk ?_)
 refine Trip.ret (rt2 [11] (hc := by repeat' (first | exact rfl | exact plMV _ _ _ | constructor)))
set_option maxHeartbeats 1000000 in
theorem cIds (nl : Bool) (ks : List Str) (vs : List PV) (hv : vs.length = ks.length) (hnd : ks.Nodup) (hl : ks.length ≤ 1000000000) : Ctr prog 43 [.mp nl (mpK ks) vs] [] (.sl ks.isEmpty 1 ((sortS ks).map fun x => sV x)) [] [] := by
 refine Ctr.enter tblOk func43 rfl (by decide) rfl (nt := 18) rfl rfl rfl rfl ?_
 refine Trip.sr tblOk ?_
 refine Trip.sr tblOk ?_
 refine Trip.seq (Trip.sR tblOk (by repeat' (first | exact rfl | (apply Rule.sem; intro hγ; with_reducible apply F_range tblOk hγ) | constructor)) ?_)
 refine Trip.block ?_
 apply Trip.loop (fun (seen : List Nat) => ⟨[(3, .osl 900 0 seen.length seen.length), (6, .ref 6 0)], [(900, .arr 1 seen.isEmpty ((seen.map fun j => ks[j]!).map fun x => sV x)), (6, .iter nl (mpK ks) vs seen)]⟩) (fun (seen : List Nat) => seen.Nodup ∧ ∀ j ∈ seen, j < ks.length) (fun (seen : List Nat) => ks.length - seen.length) ([])
 ·exact ⟨List.nodup_nil, by simp⟩
 ·refine Weak.trans (S2 := ⟨[(3, nilS), (6, .ref 6 0)], [(6, .iter nl (mpK ks) vs [])]⟩) ?_ ?_
  ·exact Weak.kp
  ·exact Weak.adopt 900 1 rfl rfl (by repeat' (first | exact rfl | constructor)) (by repeat' (first | exact rfl | constructor))
 rintro seen ⟨hn, hsn⟩
 have hsl : seen.length ≤ ks.length := by
  have := nodup_len (b := List.range ks.length) hn fun x hx => List.mem_range.2 (hsn x hx)
  rwa [List.length_range] at this
 refine Trip.seq ?_
 refine Trip.nextMap (o := 6) rfl rfl rfl ?_ ?_
 ·intro hall
  refine Trip.seq ?_
  apply Trip.cond (.tmp rfl)
  ·intro h
   exact absurd h (by decide)
  intro h
  clear h
  refine Trip.exit ?_
  have hall : ∀ j, j < ks.length → j ∈ seen := fun j hj => hall j (by rw [List.length_map]; exact hj)
  have hmem : ∀ x, x ∈ (seen.map fun j => ks[j]!) ↔ x ∈ ks := fun x => by
   rw [List.mem_map]
   constructor
   ·rintro ⟨j, hj, rfl⟩
    exact bang_mem (hsn j hj)
   ·intro hx
    obtain ⟨j, hj, rfl⟩ := List.mem_iff_getElem.1 hx
    exact ⟨j, hall j hj, getElem!_pos ks j hj⟩
  have hndo : (seen.map fun j => ks[j]!).Nodup := by
   rw [List.Nodup, List.pairwise_map]
   refine hn.imp_of_mem fun {a b} ha hb hab e => ?_
   rw [getElem!_pos ks a (hsn a ha), getElem!_pos ks b (hsn b hb)] at e
   exact hab ((List.getElem_inj hnd).1 e)
  have c1 := cSortS seen.length seen.isEmpty (seen.map fun j => ks[j]!) (by rw [List.length_map]) (by rw [List.length_map]; omega)
  rw [msort_sortS hndo hmem] at c1
  have he : seen.isEmpty = ks.isEmpty := by
   have := isEmpty_mem hmem
   rw [← this]
   cases seen <;> rfl
  rw [← he]
  have hsl2 : (sortS ks).length = seen.length := by
   have h1 := msort_sortS hndo hmem
   rw [← h1, msort_len, List.length_map]
  generalize (seen.map fun j => ks[j]!) = O at *
  refine Trip.sR tblOk (by repeat' (first | exact rfl | (apply Rule.sem; intro hγ; with_reducible apply F_call (x := .func 55) (σ := [900]) (B := []) (news := []) hγ (hspec := c1)) | exact plainL_map _ (fun _ => rfl) _ | ((with_reducible refine Side.mk ?_); exact .inl rfl) | constructor)) ?_
  refine Trip.sr tblOk ?_
  refine Trip.ret (rt1 [900] (hc := by repeat' (first | exact rfl | exact plainL_map _ (fun _ => rfl) _ | (refine Side.mk ?_; simp only [ln]; first | done | omega) | constructor)))
 ·intro j hj hjn
  have hj : j < ks.length := by rw [List.length_map] at hj; exact hj
  obtain ⟨p, hp⟩ : ∃ p, vs[j]? = some p := ⟨_, List.getElem?_eq_getElem (by omega)⟩
  have hk : (mpK ks)[j]? = some (strK ks[j]!) := by
   rw [mpK, List.getElem?_map, List.getElem?_eq_getElem hj, getElem!_pos ks j hj]; rfl
  have e1 : ((seen.map fun j => ks[j]!).map fun x => sV x) ++ [.v (strK ks[j]!)] = ((seen ++ [j]).map fun j => ks[j]!).map fun x => sV x := by rw [List.map_append, List.map_append]; rfl
  have hnd2 : (seen ++ [j]).Nodup := by
   rw [List.nodup_append]
   exact ⟨hn, by simp, by intro a ha b hb; rw [List.mem_singleton] at hb; subst hb; intro e; subst e; exact hjn ha⟩
  have hin2 : ∀ i ∈ seen ++ [j], i < ks.length := fun i hi => (List.mem_append.1 hi).elim (hsn i) fun h => by rw [List.mem_singleton] at h; omega
  have hl1 : (seen ++ [j]).length = seen.length + 1 := by simp
  have hl2 : seen.length < ks.length := by
   have := nodup_len (b := List.range ks.length) hnd2 fun x hx => List.mem_range.2 (hin2 x hx)
   rw [List.length_range] at this; omega
  have e2 : (seen.isEmpty && false) = (seen ++ [j]).isEmpty := by cases seen <;> rfl
  refine Trip.seq ?_
  apply Trip.cond (.tmp rfl)
  ·intro h
   clear h
   refine Trip.skip (Trip.block (Trip.sR tblOk (by repeat' (first | exact rfl | (apply Rule.sem; intro hγ; with_reducible apply F_entry (j := j) (k := strK ks[j]!) (p := p) hγ) | exact hk | exact hp | constructor)) ?_))
   refine Trip.R tblOk (by repeat' (first | exact rfl | ((with_reducible refine Side.mk ?_); (simp only [ln]; first | done | omega)) | constructor)) ?_
   exact ⟨seen ++ [j], by exact ⟨hnd2, hin2⟩, by first | omega | (dsimp only at *; omega), Weak.kp (ht := by repeat' (first | exact rfl | (refine Side.mk (oslE ?_ ?_) <;> simp) | constructor)) (ho := by repeat' (first | exact rfl | exact arrF e2 e1 | constructor)) (huo := by repeat' (first | exact plainL_map _ (fun _ => rfl) _ | constructor))⟩
  ·intro h
   exact absurd h (by decide)
theorem cAllW (v : Vw) (nf : Bool) (frm : List Str) (hs : v.l.length ≤ 1000000000) (hc : v.cuts.length ≤ 1000000000) (hb : ∀ x ∈ v.l, x.body.length ≤ 100000000) (hf : frm.length ≤ 1000000000) :
  Ctr prog 20 [v.pv, .sl nf 1 (frm.map fun x => sV x)] [] (.tup [.sl (ancK (ancs v.l v.cuts frm)).isEmpty 1 ((sortS (ancK (ancs v.l v.cuts frm))).map fun x => sV x), iV (ancs v.l v.cuts frm).2]) [] [] := by
 have c1 := cThrough v nf frm hs hc hb hf
 have P := ancs_P v.l v.cuts frm
 have hl : (ancs v.l v.cuts frm).1.length ≤ v.l.length := by
  have := nodup_len (b := v.l.map (·.id)) P.nd fun x hx => by
   have hp := placed_lt (rdE_placed (ancs_mem hx))
   exact List.mem_map.2 ⟨_, bang_mem hp.1, hp.2⟩
  rwa [List.length_map] at this
 have c2 := fun h : (ancs v.l v.cuts frm).2 = 0 => cIds (decide ((ancs v.l v.cuts frm).2 ≠ 0)) (ancK (ancs v.l v.cuts frm)) (mpV v.l v.cuts (ancK (ancs v.l v.cuts frm))) (by rw [mpV, List.length_map, List.length_map]) (by rw [ancK, if_pos h]; exact P.nd) (by rw [ancK, if_pos h]; omega)
 have hk : (ancs v.l v.cuts frm).2 ≠ 0 → ancK (ancs v.l v.cuts frm) = [] := fun h => if_neg h
 obtain ⟨nl, l, nr, rf, ng, lg, nc, cuts⟩ := v
 clear P hl
 generalize ancK (ancs l cuts frm) = K at *
 generalize (ancs l cuts frm).2 = E at *
 generalize decide (E ≠ 0) = q at *
 refine Ctr.enter tblOk func20 rfl (by decide) rfl (nt := 19) rfl rfl rfl rfl ?_
 refine Trip.sr tblOk ?_
 refine Trip.sR tblOk (by repeat' (first | exact rfl | (apply Rule.sem; intro hγ; with_reducible apply F_call0 (x := .func 42) (B := []) hγ (hspec := c1)) | exact .mp | ((with_reducible refine Side.mk ?_); exact .inl rfl) | constructor)) ?_
 refine Trip.seq (Trip.sr tblOk ?_)
 apply Trip.cond (.tmp rfl)
 ·intro h
  have h : E ≠ 0 := by simpa using h
  rw [hk h]
  refine Trip.sr tblOk ?_
  refine Trip.ret (rt2 [])
 intro h
 have h : E = 0 := by simpa using h
 have c3 := c2 h
 clear c2
 subst h
 refine Trip.skip (Trip.sR tblOk (by repeat' (first | exact rfl | (apply Rule.sem; intro hγ; with_reducible apply F_call0 (x := .func 43) (B := []) hγ (hspec := c3)) | ((with_reducible refine Side.mk ?_); exact .inl rfl) | constructor)) ?_)
 refine Trip.ret (rt2 [])
end Go.Proofs.Tryz
