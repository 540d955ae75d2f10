/- A part of the proof: Sl, GSrt, Wm, Wg, Wn. -/
import Derived.Test.YteailifhgfijgaaGreatDoorPart43
import Derived.Test.YteailifhgfijgaaGreatDoorPart42
set_option linter.unusedVariables false
set_option linter.unusedSimpArgs false
namespace Go.Proofs.Tryz
open Go Go.Sym Go.Graft
set_option maxRecDepth 20000
abbrev entV (E : List En) : PV := .sl E.isEmpty 3 (E.map En.pv)
def enV (l : List It) (i : Nat) : List PV := ((ENT l).take i).map entV
theorem enV_len (l : List It) {i : Nat} (h : i ≤ l.length) : (enV l i).length = i := by
 rw [enV, List.length_map, List.length_take, ENT_len]; omega
theorem enV_plain (l : List It) (i : Nat) : plainL (enV l i) = true := plainL_map _ (fun _ => rfl) _
theorem enV_one (l : List It) (i : Nat) : ∀ z ∈ enV l i, z.cells = [z] := fun z hz => by
 obtain ⟨r, _, rfl⟩ := List.mem_map.1 hz; rfl
theorem enV_succ (l : List It) {i : Nat} (h : i < l.length) : enV l (i + 1) = enV l i ++ [entV (ENT l)[i]!] := by
 rw [enV, take_snoc (ENT l) i (by rw [ENT_len]; exact h), List.map_append]; rfl
theorem en_split (l : List It) {i : Nat} (h : i < l.length) : enV l i ++ List.replicate (l.length - i) nilS = enV l i ++ nilS :: List.replicate (l.length - (i + 1)) nilS := by
 rw [show l.length - i = (l.length - (i + 1)) + 1 by omega, List.replicate_succ]
theorem en_join (l : List It) {i : Nat} (h : i < l.length) : enV l (i + 1) ++ List.replicate (l.length - (i + 1)) nilS = enV l i ++ entV (ENT l)[i]! :: List.replicate (l.length - (i + 1)) nilS := by
 rw [enV_succ l h, List.append_assoc]; rfl
theorem en_end (l : List It) : enV l l.length ++ List.replicate (l.length - l.length) nilS = (ENT l).map entV := by
 rw [Nat.sub_self, List.replicate_zero, List.append_nil, enV, List.take_of_length_le (by rw [ENT_len]; exact Nat.le_refl _)]
theorem goC_step (l : List It) {n i : Nat} (h : i < n) (met : List Int) (m : Bool) : goC l (n - i) i met m = if 20000 < sumM l met (ENT l)[i]! then none else goC l (n - (i + 1)) (i + 1) (met.set i (sumM l met (ENT l)[i]!)) (m || !decide (sumM l met (ENT l)[i]! = met[i]!)) := by
 rw [show n - i = (n - (i + 1)) + 1 by omega, goC]
set_option maxHeartbeats 2000000 in
theorem cCalm (nl : Bool) (l : List It) (hs : l.length ≤ 100000) (hb : ∀ x ∈ l, x.body.length ≤ 100000) : Ctr prog 22 [stPV nl l] [] (bV (calmP l)) [] [] := by
 have c0 := cRinged nl l hs
 have hC : calmP l = (!ringP l && itC l (l.length * 20000 + 1) (List.replicate l.length 0)) := rfl
 rw [hC]
 generalize ringP l = rg at *
 refine Ctr.enter tblOk func22 rfl (by decide) rfl (nt := 118) rfl rfl rfl rfl ?_
 refine Trip.sr tblOk ?_
 refine Trip.seq (Trip.sR tblOk (by repeat' (first | exact rfl | (apply Rule.sem; intro hγ; with_reducible apply F_call0 (x := .func 45) (B := []) hγ (hspec := c0)) | ((with_reducible refine Side.mk ?_); exact .inl rfl) | constructor)) ?_)
 apply Trip.cond (.tmp rfl)
 ·intro h
  have h : rg = true := h
  subst h
  refine Trip.sr tblOk ?_
  refine Trip.ret (rt1 [])
 intro h
 have h : rg = false := h
 subst h
 rw [Bool.not_false, Bool.true_and]
 refine Trip.skip (Trip.sR tblOk (by repeat' (first | exact rfl | (apply Rule.sem; intro hγ; with_reducible apply F_makeSlice tblOk hγ) | ((with_reducible refine Side.mk ?_); (simp only [ln]; first | done | omega)) | constructor)) ?_)
 refine Trip.seq (Trip.sr tblOk ?_)
 refine Trip.block ?_
 refine Trip.loop (fun (i : Nat) => ⟨[(1, .ref 1 0), (3, .osl 17 0 l.length l.length), (4, iV i)], [(1, .box [.sl nl 3 (l.map It.pv)]), (17, .arr 1 false (enV l i ++ List.replicate (l.length - i) nilS))]⟩) (fun (i : Nat) => i ≤ l.length) (fun (i : Nat) => l.length - i) (0) (by first | omega | (simp; done)) (Weak.kp (ht := by repeat' (first | exact rfl | (refine Side.mk (oslE ?_ ?_) <;> (simp only [ln]; first | done | omega)) | constructor)) (ho := by repeat' (first | exact rfl | exact arrE (by simp [enV]) | constructor)) (huo := by repeat' (first | exact rfl | exact plainL_append (enV_plain _ _) (plainL_rep _ _ rfl) | constructor))) ?_
 intro i hi
 refine Trip.seq (Trip.sr tblOk ?_)
 apply Trip.cond (.tmp rfl)
 ·intro h
  have h : i < l.length := by simp at h; omega
  have c1 := cParse15 l[i]!.body (by have := hb _ (bang_mem h); omega)
  have hen : (ENT l)[i]! = if l[i]!.kind = 2 then (treeOf l[i]!.body).2 else [] := by rw [ENT_get l h]; rfl
  generalize (treeOf l[i]!.body).1 = e1 at *
  generalize (treeOf l[i]!.body).2 = T at *
  have hAl := enV_len l hi
  have hA0 : (enV l i).length = 0 + ((i : Nat) : Int).toNat := by rw [hAl]; simp
  have hjn := en_join l h
  have hpA := enV_plain l i
  have hcA := enV_one l i
  have hpB := plainL_rep (l.length - (i + 1)) nilS rfl
  have hcB := rep_one (l.length - (i + 1))
  have hBl : (List.replicate (l.length - (i + 1)) nilS).length = l.length - (i + 1) := List.length_replicate
  rw [en_split l h]
  generalize hA : enV l i = A at *
  generalize hBq : List.replicate (l.length - (i + 1)) nilS = B at *
  refine Trip.skip ?_
  refine Trip.seqk ⟨[(1, .ref 1 0), (3, .osl 17 0 l.length l.length), (4, iV i)], [(1, .box [.sl nl 3 (l.map It.pv)]), (17, .arr 1 false (A ++ entV (ENT l)[i]! :: B))]⟩ ?_ ?_
  ·refine Trip.block (Trip.sR tblOk (by repeat' (first | exact rfl | exact idx_map _ _ _ (by show _ < _; first | omega | (simp only [List.length_map] at *; omega)) | ((with_reducible refine Side.mk ?_); (simp only [ln]; first | done | omega)) | constructor)) ?_)
   apply Trip.cond (.tmp rfl)
   ·intro h2
    have h2 : l[i]!.kind = 2 := by simpa using h2
    rw [if_pos h2] at hen
    rw [hen]
    refine Trip.R tblOk (by repeat' (first | exact rfl | (apply Rule.sem; intro hγ; with_reducible apply F_call0 (x := .func 39) (B := []) hγ (hspec := c1)) | exact mid_get _ _ _ hA0 | exact idx_map _ _ _ (by show _ < _; first | omega | (simp only [List.length_map] at *; omega)) | ((with_reducible refine Side.mk ?_); first | omega | exact .inl rfl | (simp only [ln]; first | done | omega)) | constructor)) ?_
    exact Weak.kp (ho := by repeat' (first | exact rfl | exact arrE (mid_set _ _ _ _ hA0) | constructor)) (huo := by repeat' (first | exact rfl | exact plainL_append hpA (by simp only [plainL, hpB]; rfl) | constructor))
   ·intro h2
    have h2 : ¬ l[i]!.kind = 2 := by simpa using h2
    rw [if_neg h2] at hen
    rw [hen]
    refine Trip.skip ?_
    refine Weak.turn [] rfl rfl ?_ ?_
    ·repeat' (first | exact rfl | constructor)
    ·exact .box rfl (.cons .sl .nil) (.arrC rfl (convMid hpA hpB hcA hcB rfl rfl .nilS) (lenMid (one_len hcA) (one_len hcB) rfl) .nil)
  rw [← hjn]
  subst hBq
  refine Trip.R tblOk (by repeat' (first | exact rfl | ((with_reducible refine Side.mk ?_); omega) | constructor)) ?_
  exact ⟨i + 1, by first | omega | (dsimp only at *; omega), by first | omega | (dsimp only at *; omega), Weak.kp (huo := by repeat' (first | exact rfl | exact plainL_append (enV_plain _ _) (plainL_rep _ _ rfl) | constructor))⟩
 intro h
 have h : i = l.length := by simp at h; omega
 subst h
 refine Trip.exit (Trip.sR tblOk (by repeat' (first | exact rfl | (apply Rule.sem; intro hγ; with_reducible apply F_makeSlice tblOk hγ) | ((with_reducible refine Side.mk ?_); (simp only [ln]; first | done | omega)) | constructor)) ?_)
 refine Trip.seq (Trip.sr tblOk ?_)
 refine Trip.block ?_
 refine Trip.loop (fun (q : List Int × Bool) => ⟨[(1, .ref 1 0), (3, .osl 17 0 l.length l.length), (5, .osl 48 0 l.length l.length), (6, bV q.2)], [(1, .box [.sl nl 3 (l.map It.pv)]), (17, .arr 1 false ((ENT l).map entV)), (48, .arr 1 false (q.1.map fun x => iV x))]⟩) (fun (q : List Int × Bool) => CalmI l q.1 q.2) (fun (q : List Int × Bool) => 2 * slack q.1 + (if q.2 = true then 1 else 0)) ((List.replicate l.length 0, true)) (by exact CalmI.start l) (Weak.kp (ht := by repeat' (first | exact rfl | (refine Side.mk (oslE ?_ ?_) <;> (simp only [ln]; first | done | omega)) | constructor)) (ho := by repeat' (first | exact rfl | exact arrE (en_end l) | exact arrE (by simp) | constructor)) (huo := by repeat' (first | exact rfl | exact plainL_map _ (fun _ => rfl) _ | constructor))) ?_
 rintro ⟨met, m⟩ hI
 dsimp only at *
 refine Trip.seq (Trip.sr tblOk ?_)
 apply Trip.cond (.tmp rfl)
 ·intro h
  have h : m = true := h
  subst h
  have hno := hI.none
  have hnx := fun a b => hI.next (met' := a) (m' := b)
  have hup := hI.1
  generalize hg0 : goC l l.length 0 met false = g0 at *
  refine Trip.skip (Trip.block (Trip.sr tblOk ?_))
  refine Trip.sr tblOk ?_
  refine Trip.block ?_
  refine Trip.loop (fun (q : Nat × List Int × Bool) => ⟨[(1, .ref 1 0), (3, .osl 17 0 l.length l.length), (5, .osl 48 0 l.length l.length), (6, bV q.2.2), (7, iV q.1)], [(1, .box [.sl nl 3 (l.map It.pv)]), (17, .arr 1 false ((ENT l).map entV)), (48, .arr 1 false (q.2.1.map fun x => iV x))]⟩) (fun (q : Nat × List Int × Bool) => q.1 ≤ l.length ∧ upM l q.2.1 ∧ goC l (l.length - q.1) q.1 q.2.1 q.2.2 = g0) (fun (q : Nat × List Int × Bool) => l.length - q.1) ((0, met, false)) (by exact ⟨Nat.zero_le _, hup, hg0⟩) (Weak.kp (huo := by repeat' (first | exact rfl | exact plainL_map _ (fun _ => rfl) _ | constructor))) ?_
  rintro ⟨i, met2, m2⟩ ⟨hi, hup2, hg⟩
  dsimp only at *
  have hEl := ENT_len l
  have hml := hup2.2.1
  refine Trip.seq (Trip.sR tblOk (by repeat' (first | exact rfl | ((with_reducible refine Side.mk ?_); (simp only [ln]; first | done | omega)) | constructor)) ?_)
  apply Trip.cond (.tmp rfl)
  ·intro h2
   have h2 : i < l.length := by simp at h2; omega
   rw [goC_step l h2] at hg
   have hset := hup2.set h2
   have hEb : (ENT l)[i]!.length ≤ 100000 := by
    rw [ENT_get l h2, ents]
    split
    ·exact Nat.le_trans (treeOf_len _) (hb _ (bang_mem h2))
    ·simp
   have hz : 0 + ((i : Nat) : Int).toNat = i := by simp
   refine Trip.skip (Trip.seq (Trip.block (Trip.sr tblOk ?_)))
   refine Trip.seq (Trip.sr tblOk ?_)
   refine Trip.block ?_
   refine Trip.loop (fun (k : Nat) => ⟨[(1, .ref 1 0), (3, .osl 17 0 l.length l.length), (5, .osl 48 0 l.length l.length), (6, bV m2), (7, iV i), (8, iV (sumM l met2 ((ENT l)[i]!.take k))), (9, iV k)], [(1, .box [.sl nl 3 (l.map It.pv)]), (17, .arr 1 false ((ENT l).map entV)), (48, .arr 1 false (met2.map fun x => iV x))]⟩) (fun (k : Nat) => k ≤ (ENT l)[i]!.length) (fun (k : Nat) => (ENT l)[i]!.length - k) (0) (by first | omega | (simp; done)) (Weak.kp (huo := by repeat' (first | exact rfl | exact plainL_map _ (fun _ => rfl) _ | constructor))) ?_
   intro k hk
   have hsk := fun h : k < (ENT l)[i]!.length => sumM_take (l := l) (met := met2) (ENT l)[i]! h
   have hle := sumM_le (l := l) hup2.1 (ENT l)[i]! k
   have hge := sumM_pos (l := l) hup2.1 ((ENT l)[i]!.take k)
   refine Trip.seq (Trip.sR tblOk (by repeat' (first | exact rfl | exact idx_map _ _ _ (by show _ < _; first | omega | (simp only [List.length_map] at *; omega)) | ((with_reducible refine Side.mk ?_); first | omega | exact fun h => h | exact fun _ h => h | (simp only [ln]; first | done | omega)) | constructor)) ?_)
   apply Trip.cond (.tmp rfl)
   ·intro h3
    have h3 : (decide ((k : Int) < ((((ENT l)[i]!.map En.pv).length : Nat) : Int)) && decide (sumM l met2 ((ENT l)[i]!.take k) ≤ 20000)) = true := by rw [hz] at h3; exact h3
    rw [List.length_map, Bool.and_eq_true, decide_eq_true_eq, decide_eq_true_eq] at h3
    obtain ⟨h3, h4⟩ := h3
    have h3 : k < (ENT l)[i]!.length := by omega
    have h3z : k < (ENT l)[0 + ((i : Nat) : Int).toNat]!.length := by rw [hz]; exact h3
    have hsk := hsk h3
    have hw : wgt l met2 (ENT l)[i]![k]! = 1 + (if (placed l (ENT l)[i]![k]!.id && decide ((ENT l)[i]![k]!.mode = 4)) = true then met2[place l (ENT l)[i]![k]!.id]! else 0) := rfl
    have hpl := placed_lt (l := l) (x := (ENT l)[i]![k]!.id)
    have c2 := cPlace2 nl l (ENT l)[i]![k]!.id (by omega)
    have hxz : (ENT l)[i]![k]! = (ENT l)[0 + ((i : Nat) : Int).toNat]![((k : Nat) : Int).toNat]! := by rw [hz, Int.toNat_natCast]
    have hmb := hup2.1.all (place l (ENT l)[i]![k]!.id)
    generalize hs1 : sumM l met2 ((ENT l)[i]!.take (k + 1)) = s1 at *
    generalize sumM l met2 ((ENT l)[i]!.take k) = s0 at *
    have hmz : placed l (ENT l)[i]![k]!.id = true → 0 + ((place l (ENT l)[i]![k]!.id : Nat) : Int).toNat < met2.length := fun hp => by
     have := (hpl hp).1
     rw [Nat.zero_add, Int.toNat_natCast]; omega
    have hmv : met2[0 + ((place l (ENT l)[i]![k]!.id : Nat) : Int).toNat]! = met2[place l (ENT l)[i]![k]!.id]! := by rw [Nat.zero_add, Int.toNat_natCast]
    generalize hP : place l (ENT l)[i]![k]!.id = pp at *
    generalize placed l (ENT l)[i]![k]!.id = pd at *
    rw [hxz] at c2
    refine Trip.skip ?_
    refine Trip.seqk ⟨[(1, .ref 1 0), (3, .osl 17 0 l.length l.length), (5, .osl 48 0 l.length l.length), (6, bV m2), (7, iV i), (8, iV s1), (9, iV k)], [(1, .box [.sl nl 3 (l.map It.pv)]), (17, .arr 1 false ((ENT l).map entV)), (48, .arr 1 false (met2.map fun x => iV x))]⟩ ?_ ?_
    ·refine Trip.block (Trip.sR tblOk (by repeat' (first | exact rfl | ((with_reducible refine Side.mk ?_); omega) | constructor)) ?_)
     refine Trip.sD tblOk mixed (by repeat' (first | exact rfl | exact idx_map _ _ _ h3z | (apply Rule.sem; intro hγ; with_reducible apply F_call0 (x := .func 37) (B := []) hγ (hspec := c2)) | exact idx_map _ _ _ (by show _ < _; first | omega | (simp only [List.length_map] at *; omega)) | ((with_reducible refine Side.mk ?_); first | omega | exact .inl rfl | (simp only [ln]; first | done | omega) | (simp only [ln] at *; first | done | omega)) | constructor)) ?_
     refine Trip.sR tblOk (by repeat' (first | exact rfl | (apply Rule.under tblOk; intro hγ; with_reducible apply Rule.indexAddr) | exact idx_map _ _ _ (by have h2 := hγ; simp only [gpick, cond_true, cond_false, decide_eq_true_eq, Bool.and_eq_true, Bool.or_eq_true, Bool.not_eq_true', Bool.not_eq_false', Bool.or_eq_false_iff, decide_eq_false_iff_not, List.length_map] at h2; show _ < _; omega) | exact idx_map _ _ _ (by show _ < _; first | omega | (simp only [List.length_map] at *; omega)) | ((with_reducible refine Side.mk ?_); first | omega | exact fun h => h | exact fun _ h => h | (simp only [ln]; first | done | omega) | (simp only [ln] at *; first | done | omega) | exact fun _ => hγ) | constructor)) ?_
     apply Trip.cond (.tmp rfl)
     ·intro h5
      have h5 : (pd && decide ((ENT l)[i]![k]!.mode = 4)) = true := by rw [hz] at h5; exact h5
      rw [if_pos h5] at hw
      have hp : pd = true := by rw [Bool.and_eq_true] at h5; exact h5.1
      have hmz := hmz hp
      refine Trip.R tblOk (by repeat' (first | exact rfl | exact idx_map _ _ _ hmz | ((with_reducible refine Side.mk ?_); first | omega | (simp only [ln]; first | done | omega)) | constructor)) ?_
      exact Weak.kp (ht := by repeat' (first | exact rfl | (refine vI ?_; rw [hmv]; omega) | constructor)) (huo := by repeat' (first | exact rfl | exact plainL_map _ (fun _ => rfl) _ | constructor))
     ·intro h5
      have h5 : ¬ (pd && decide ((ENT l)[i]![k]!.mode = 4)) = true := by rw [hz] at h5; rw [show (pd && decide ((ENT l)[i]![k]!.mode = 4)) = false from h5]; simp
      rw [if_neg h5] at hw
      refine Trip.skip ?_
      exact Weak.kp (ht := by repeat' (first | exact rfl | (refine vI ?_; first | omega | (simp; done) | (simp; omega) | (simp only [List.length_map] at *; omega)) | constructor)) (huo := by repeat' (first | exact rfl | exact plainL_map _ (fun _ => rfl) _ | constructor))
    refine Trip.R tblOk (by repeat' (first | exact rfl | ((with_reducible refine Side.mk ?_); omega) | constructor)) ?_
    exact ⟨k + 1, by first | omega | (dsimp only at *; omega), by first | omega | (dsimp only at *; omega), Weak.kp (ht := by repeat' (first | exact rfl | exact congrArg iV hs1.symm | constructor)) (huo := by repeat' (first | exact rfl | exact plainL_map _ (fun _ => rfl) _ | constructor))⟩
   intro h3
   have h3 : (decide ((k : Int) < ((((ENT l)[i]!.map En.pv).length : Nat) : Int)) && decide (sumM l met2 ((ENT l)[i]!.take k) ≤ 20000)) = false := by rw [hz] at h3; exact h3
   rw [List.length_map, Bool.and_eq_false_iff, decide_eq_false_iff_not, decide_eq_false_iff_not] at h3
   have hkE : sumM l met2 ((ENT l)[i]!.take k) ≤ 20000 → sumM l met2 ((ENT l)[i]!.take k) = sumM l met2 (ENT l)[i]! := fun h => by
    rw [List.take_of_length_le (by omega)]
   generalize sumM l met2 ((ENT l)[i]!.take k) = s0 at *
   generalize sumM l met2 (ENT l)[i]! = S at *
   refine Trip.exit (Trip.seq (Trip.sr tblOk ?_))
   apply Trip.cond (.tmp rfl)
   ·intro h4
    have h4 : 20000 < s0 := by simpa using h4
    rw [if_pos (by omega)] at hg
    rw [hno hg.symm]
    refine Trip.sr tblOk ?_
    refine Trip.ret (rt1 [] (hc := by repeat' (exact cvB (by simp only [List.length_map]))))
   intro h4
   have h4 : s0 ≤ 20000 := by simp at h4; omega
   have hkE := hkE h4
   subst hkE
   rw [if_neg (by omega)] at hg
   refine Trip.skip (Trip.sR tblOk (by repeat' (first | exact rfl | (apply Rule.under tblOk; intro hγ; with_reducible apply Rule.indexAddr) | exact idx_map _ _ _ (by rw [hz]; omega) | ((with_reducible refine Side.mk ?_); first | omega | exact fun h => h | exact fun _ h => congrArg Bool.not h | (simp only [ln]; first | done | omega) | exact fun _ => hγ) | constructor)) ?_)
   refine Trip.R tblOk (by repeat' (first | exact rfl | exact idx_map _ _ _ (by rw [hz]; omega) | ((with_reducible refine Side.mk ?_); first | omega | (simp only [ln]; first | done | omega)) | constructor)) ?_
   refine Trip.R tblOk (by repeat' (first | exact rfl | ((with_reducible refine Side.mk ?_); omega) | constructor)) ?_
   exact ⟨(i + 1, met2.set i s0, m2 || !decide (s0 = met2[i]!)), by exact ⟨by omega, hset (by omega), hg⟩, by first | omega | (dsimp only at *; omega), Weak.kp (ht := by repeat' (first | exact rfl | (rw [hz]; rfl) | constructor)) (ho := by repeat' (first | exact rfl | (refine arrE ?_; rw [hz]; simp [List.map_set]; done) | constructor)) (huo := by repeat' (first | exact rfl | exact plainL_map _ (fun _ => rfl) _ | constructor))⟩
  intro h2
  have h2 : i = l.length := by simp at h2; omega
  subst h2
  rw [Nat.sub_self] at hg
  have hg : some (met2, m2) = g0 := hg
  have hnx := hnx met2 m2 hg.symm
  have hn2 : 2 * slack met2 + (if m2 = true then 1 else 0) < 2 * slack met + 1 := hnx.2
  have hf : (if true = true then (1 : Nat) else 0) = 1 := rfl
  refine Trip.exit ?_
  exact ⟨(met2, m2), by exact hnx.1, by first | omega | (dsimp only at *; omega), Weak.kp (huo := by repeat' (first | exact rfl | exact plainL_map _ (fun _ => rfl) _ | constructor))⟩
 intro h
 have h : m = false := h
 subst h
 rw [hI.done]
 refine Trip.exit (Trip.sr tblOk ?_)
 refine Trip.ret (rt1 [] (hc := by repeat' (exact cvB (by simp only [List.length_map]))))
end Go.Proofs.Tryz
namespace Go.Graft
open Go.Sym
theorem objId_le (k : Int) (b : Str) : (objId k b).length ≤ 40 := by
 rw [objId]
 split
 ·rw [idOf, hexOf_len, List.length_take]; omega
 ·simp
theorem dedN_one (l : List Str) : ∀ i, 1 ≤ (dedN l (i + 1)).length
 | 0 => by simp [dedN, hasS]
 | i + 1 => by
  have ih := dedN_one l i
  rw [dedN]
  split
  ·exact ih
  ·rw [List.length_append]; omega
theorem links_one {b : Str} (h : wholeE 3 b = 0) : 1 ≤ (linksOf 3 b).length := by
 rw [linksOf, if_neg (by simp [h]), namesOf, if_neg (by decide), if_pos rfl, dedup, List.length_cons]
 exact dedN_one _ _
theorem right_gives {l : List It} (h : rightSt l = true) : (∀ x ∈ l, x.id.length ≤ 40) ∧ ∀ x ∈ l, x.kind = 3 → 1 ≤ (linksOf x.kind x.body).length := by
 obtain ⟨_, _, hg⟩ := (right_iff l).1 h
 refine ⟨fun x hx => ?_, fun x hx hk => ?_⟩
 ·rw [← (hg x hx).2]; exact objId_le _ _
 ·have := (hg x hx).1
  rw [hk] at this ⊢
  exact links_one this
end Go.Graft
namespace Go.Proofs.Tryz
open Go Go.Sym Go.Graft
set_option maxRecDepth 20000
def rightV (v : Vw) : Bool := decide (v.l.length ≤ 60 ∧ v.cuts.length ≤ 20 ∧ v.rf.length ≤ 10 ∧ v.lg.length ≤ 8) && v.l.all (fun x => decide (x.body.length ≤ 3000)) && v.lg.all (fun x => decide (x.2.2.length ≤ 20)) && (decide (v.cuts = sortS v.cuts) && rightSt v.l && calmP v.l)
theorem rightV_gives {v : Vw} (h : rightV v = true) : v.l.length ≤ 60 ∧ v.cuts.length ≤ 20 ∧ (∀ x ∈ v.l, x.body.length ≤ 3000) ∧ rightSt v.l = true := by
 simp only [rightV, Bool.and_eq_true, decide_eq_true_eq, List.all_eq_true] at h
 exact ⟨h.1.1.1.1, h.1.1.1.2.1, h.1.1.2, h.2.1.2⟩
set_option maxHeartbeats 1000000 in
theorem cRight47 (v : Vw) : Ctr prog 7 [v.pv] [] (bV (rightV v)) [] [] := by
 have k1 := fun h : v.cuts.length ≤ 20 => cSet06 v.nc v.cuts (by omega)
 have k2 := fun h : v.cuts.length ≤ 20 => cSame06 v.nc (decide (v.cuts.length = 0)) v.cuts (sortS v.cuts) (by omega) (by have := sortS_le v.cuts; omega)
 have k3 := fun h : v.l.length ≤ 60 => cRight17 v.nl v.l (by omega)
 have k4 := fun (h : v.l.length ≤ 60) (hb : ∀ x ∈ v.l, x.body.length ≤ 3000) => cCalm v.nl v.l (by omega) (fun x hx => Nat.le_trans (hb x hx) (by decide))
 have hR : rightV v = (decide (v.l.length ≤ 60 ∧ v.cuts.length ≤ 20 ∧ v.rf.length ≤ 10 ∧ v.lg.length ≤ 8) && v.l.all (fun x => decide (x.body.length ≤ 3000)) && v.lg.all (fun x => decide (x.2.2.length ≤ 20)) && (decide (v.cuts = sortS v.cuts) && rightSt v.l && calmP v.l)) := rfl
 obtain ⟨nl, l, nr, rf, ng, lg, nc, cuts⟩ := v
 dsimp only at *
 generalize rightV ⟨nl, l, nr, rf, ng, lg, nc, cuts⟩ = R at *
 generalize decide (cuts = sortS cuts) = q1 at *
 generalize rightSt l = q2 at *
 generalize calmP l = q3 at *
 generalize sortS cuts = sc at *
 refine Ctr.enter tblOk func7 rfl (by decide) rfl (nt := 76) rfl rfl rfl rfl ?_
 refine Trip.sr tblOk ?_
 refine Trip.seq (Trip.sR tblOk (by repeat' (first | exact rfl | ((with_reducible refine Side.mk ?_); first | exact fun h => h | exact fun _ h => congrArg Bool.not h) | constructor)) ?_)
 apply Trip.cond (.tmp rfl)
 ·intro h
  have h2 : ¬ (l.length ≤ 60 ∧ cuts.length ≤ 20 ∧ rf.length ≤ 10 ∧ lg.length ≤ 8) := fun k => by
   simp at h
   omega
  rw [decide_eq_false h2, Bool.false_and, Bool.false_and, Bool.false_and] at hR
  subst hR
  refine Trip.sr tblOk ?_
  refine Trip.ret (rt1 [] (hc := by repeat' (exact cvB (by simp only [List.length_map]))))
 intro h
 have h2 : l.length ≤ 60 ∧ cuts.length ≤ 20 ∧ rf.length ≤ 10 ∧ lg.length ≤ 8 := by
  simp at h
  omega
 rw [decide_eq_true h2, Bool.true_and] at hR
 have k1 := k1 h2.2.1
 have k2 := k2 h2.2.1
 have k3 := k3 h2.1
 have k4 := k4 h2.1
 clear h
 refine Trip.skip (Trip.seq (Trip.sr tblOk ?_))
 refine Trip.block ?_
 refine Trip.loop (fun (i : Nat) => ⟨[(1, .ref 1 0), (3, iV i)], [(1, .box (Vw.cells ⟨nl, l, nr, rf, ng, lg, nc, cuts⟩))]⟩) (fun (i : Nat) => i ≤ l.length ∧ ∀ j, j < i → l[j]!.body.length ≤ 3000) (fun (i : Nat) => l.length - i) (0) (by exact ⟨Nat.zero_le _, fun j hj => absurd hj (by omega)⟩) Weak.kp ?_
 rintro i ⟨hi, hj⟩
 refine Trip.seq (Trip.sr tblOk ?_)
 apply Trip.cond (.tmp rfl)
 ·intro h
  have h : i < l.length := by simp at h; omega
  refine Trip.skip (Trip.seq (Trip.block (Trip.sR tblOk (by repeat' (first | exact rfl | exact idx_map _ _ _ (by show _ < _; first | omega | (simp only [List.length_map] at *; omega)) | ((with_reducible refine Side.mk ?_); (simp only [ln]; first | done | omega)) | constructor)) ?_)))
  apply Trip.cond (.tmp rfl)
  ·intro h3
   have h3 : ¬ l[i]!.body.length ≤ 3000 := by
    have h3 : decide ((3000 : Int) < (l[i]!.body.length : Int)) = true := h3
    rw [decide_eq_true_eq] at h3
    omega
   have h4 : (l.all fun x => decide (x.body.length ≤ 3000)) = false := by
    rw [List.all_eq_false]
    exact ⟨_, bang_mem h, by simpa using h3⟩
   rw [h4, Bool.false_and, Bool.false_and] at hR
   subst hR
   refine Trip.sr tblOk ?_
   refine Trip.ret (rt1 [] (hc := by repeat' (exact cvB (by simp only [List.length_map]))))
  intro h3
  have h3 : l[i]!.body.length ≤ 3000 := by
   have h3 : decide ((3000 : Int) < (l[i]!.body.length : Int)) = false := h3
   rw [decide_eq_false_iff_not] at h3
   omega
  refine Trip.skip (Trip.R tblOk (by repeat' (first | exact rfl | ((with_reducible refine Side.mk ?_); omega) | constructor)) ?_)
  exact ⟨i + 1, by exact ⟨by omega, fun j h4 => (Nat.lt_succ_iff_lt_or_eq.1 h4).elim (hj j) (fun e => e ▸ h3)⟩, by first | omega | (dsimp only at *; omega), Weak.kp⟩
 intro h
 have h : i = l.length := by simp at h; omega
 subst h
 have hb : ∀ x ∈ l, x.body.length ≤ 3000 := fun x hx => by
  obtain ⟨j, hj2, rfl⟩ := List.mem_iff_getElem.1 hx
  have := hj j hj2
  rw [getElem!_pos l j hj2] at this
  exact this
 have h4 : (l.all fun x => decide (x.body.length ≤ 3000)) = true := by
  rw [List.all_eq_true]
  exact fun x hx => by simpa using hb x hx
 rw [h4, Bool.true_and] at hR
 have k4 := k4 hb
 refine Trip.exit (Trip.seq (Trip.sr tblOk ?_))
 refine Trip.block ?_
 refine Trip.loop (fun (i : Nat) => ⟨[(1, .ref 1 0), (4, iV i)], [(1, .box (Vw.cells ⟨nl, l, nr, rf, ng, lg, nc, cuts⟩))]⟩) (fun (i : Nat) => i ≤ lg.length ∧ ∀ j, j < i → lg[j]!.2.2.length ≤ 20) (fun (i : Nat) => lg.length - i) (0) (by exact ⟨Nat.zero_le _, fun j hj => absurd hj (by omega)⟩) Weak.kp ?_
 clear hj
 rintro i ⟨hi, hj⟩
 refine Trip.seq (Trip.sr tblOk ?_)
 apply Trip.cond (.tmp rfl)
 ·intro h
  have h : i < lg.length := by simp at h; omega
  refine Trip.skip (Trip.seq (Trip.block (Trip.sR tblOk (by repeat' (first | exact rfl | exact idx_map _ _ _ (by show _ < _; first | omega | (simp only [List.length_map] at *; omega)) | ((with_reducible refine Side.mk ?_); (simp only [ln]; first | done | omega)) | constructor)) ?_)))
  apply Trip.cond (.tmp rfl)
  ·intro h3
   have h3 : ¬ lg[i]!.2.2.length ≤ 20 := by
    have h3 : decide ((20 : Int) < (((lg[i]!.2.2.map lnV).length : Nat) : Int)) = true := h3
    rw [decide_eq_true_eq, List.length_map] at h3
    omega
   have h4 : (lg.all fun x => decide (x.2.2.length ≤ 20)) = false := by
    rw [List.all_eq_false]
    exact ⟨_, bang_mem h, by simpa using h3⟩
   rw [h4, Bool.false_and] at hR
   subst hR
   refine Trip.sr tblOk ?_
   refine Trip.ret (rt1 [] (hc := by repeat' (exact cvB (by simp only [List.length_map]))))
  intro h3
  have h3 : lg[i]!.2.2.length ≤ 20 := by
   have h3 : decide ((20 : Int) < (((lg[i]!.2.2.map lnV).length : Nat) : Int)) = false := h3
   rw [decide_eq_false_iff_not, List.length_map] at h3
   omega
  refine Trip.skip (Trip.R tblOk (by repeat' (first | exact rfl | ((with_reducible refine Side.mk ?_); omega) | constructor)) ?_)
  exact ⟨i + 1, by exact ⟨by omega, fun j h4 => (Nat.lt_succ_iff_lt_or_eq.1 h4).elim (hj j) (fun e => e ▸ h3)⟩, by first | omega | (dsimp only at *; omega), Weak.kp⟩
 intro h
 have h : i = lg.length := by simp at h; omega
 subst h
 have h5 : (lg.all fun x => decide (x.2.2.length ≤ 20)) = true := by
  rw [List.all_eq_true]
  intro x hx
  obtain ⟨j, hj2, rfl⟩ := List.mem_iff_getElem.1 hx
  have := hj j hj2
  rw [getElem!_pos lg j hj2] at this
  simpa using this
 rw [h5, Bool.true_and] at hR
 subst hR
 refine Trip.exit (Trip.sD tblOk mixed (by repeat' (first | exact rfl | (apply Rule.sem; intro hγ; with_reducible apply F_call0 (x := .func 16) (B := []) hγ (hspec := k1)) | (apply Rule.sem; intro hγ; with_reducible apply F_call0 (x := .func 11) (B := []) hγ (hspec := k2)) | (apply Rule.sem; intro hγ; with_reducible apply F_call0 (x := .func 21) (B := []) hγ (hspec := k3)) | (apply Rule.sem; intro hγ; with_reducible apply F_call0 (x := .func 22) (B := []) hγ (hspec := k4)) | ((with_reducible refine Side.mk ?_); first | exact .inl rfl | exact fun h => h | exact fun _ h => h) | constructor)) ?_)
 refine Trip.ret (rt1 [] (hc := by repeat' (exact cvB (by cases q1 <;> cases q2 <;> cases q3 <;> rfl))))
end Go.Proofs.Tryz
namespace Go.Proofs.Tryz
open Go Go.Sym Go.Graft
set_option maxRecDepth 20000
theorem slE {nl : Bool} {sz : Nat} {es es2 : List PV} (h : es = es2) : PV.sl nl sz es = PV.sl nl sz es2 := by rw [h]
end Go.Proofs.Tryz
namespace Go.Proofs.Tryz
open Go Go.Sym Go.Graft
set_option maxRecDepth 20000
end Go.Proofs.Tryz
