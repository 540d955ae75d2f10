/- A part of the proof: Sl, GUni. -/
import Derived.Test.YtbnnmnbidkpmcaaGreatDoorPart45
set_option linter.unusedVariables false
set_option linter.unusedSimpArgs false
namespace Go.Proofs.Tryz
open Go Go.Sym Go.Graft
set_option maxRecDepth 20000
abbrev entV (E : List En) : PV := .sl E.isEmpty 3 (E.map En.pv)
def enV (l : List It) (i : Nat) : List PV := ((ENT l).take i).map entV
theorem enV_len (l : List It) {i : Nat} (h : i ≤ l.length) : (enV l i).length = i := by
 rw [enV, List.length_map, List.length_take, ENT_len]; omega
theorem enV_plain (l : List It) (i : Nat) : plainL (enV l i) = true := plainL_map _ (fun _ => rfl) _
theorem enV_one (l : List It) (i : Nat) : ∀ z ∈ enV l i, z.cells = [z] := fun z hz => by
 obtain ⟨r, _, rfl⟩ := List.mem_map.1 hz; rfl
theorem enV_succ (l : List It) {i : Nat} (h : i < l.length) : enV l (i + 1) = enV l i ++ [entV (ENT l)[i]!] := by
 rw [enV, take_snoc (ENT l) i (by rw [ENT_len]; exact h), List.map_append]; rfl
theorem en_split (l : List It) {i : Nat} (h : i < l.length) : enV l i ++ List.replicate (l.length - i) nilS = enV l i ++ nilS :: List.replicate (l.length - (i + 1)) nilS := by
 rw [show l.length - i = (l.length - (i + 1)) + 1 by omega, List.replicate_succ]
theorem en_join (l : List It) {i : Nat} (h : i < l.length) : enV l (i + 1) ++ List.replicate (l.length - (i + 1)) nilS = enV l i ++ entV (ENT l)[i]! :: List.replicate (l.length - (i + 1)) nilS := by
 rw [enV_succ l h, List.append_assoc]; rfl
theorem en_end (l : List It) : enV l l.length ++ List.replicate (l.length - l.length) nilS = (ENT l).map entV := by
 rw [Nat.sub_self, List.replicate_zero, List.append_nil, enV, List.take_of_length_le (by rw [ENT_len]; exact Nat.le_refl _)]
theorem goC_step (l : List It) {n i : Nat} (h : i < n) (met : List Int) (m : Bool) : goC l (n - i) i met m = if 20000 < sumM l met (ENT l)[i]! then none else goC l (n - (i + 1)) (i + 1) (met.set i (sumM l met (ENT l)[i]!)) (m || !decide (sumM l met (ENT l)[i]! = met[i]!)) := by
 rw [show n - i = (n - (i + 1)) + 1 by omega, goC]
set_option maxHeartbeats 2000000 in
theorem cCalm (nl : Bool) (l : List It) (hs : l.length ≤ 100000) (hb : ∀ x ∈ l, x.body.length ≤ 100000) : Ctr prog 42 [stPV nl l] [] (bV (calmP l)) [] [] := by
 have c0 := cRinged nl l hs
 have hC : calmP l = (!ringP l && itC l (l.length * 20000 + 1) (List.replicate l.length 0)) := rfl
 rw [hC]
 generalize ringP l = rg at *
 refine Ctr.enter tblOk func42 rfl (by decide) rfl (nt := 118) rfl rfl rfl rfl ?_
 refine Trip.sr tblOk ?_
 refine Trip.seq (Trip.sR tblOk (by repeat' (first | exact rfl | (apply Rule.sem; intro hγ; with_reducible apply F_call0 (x := .func 74) (B := []) hγ (hspec := c0)) | ((with_reducible refine Side.mk ?_); exact .inl rfl) | constructor)) ?_)
 apply Trip.cond (.tmp rfl)
 ·intro h
  have h : rg = true := h
  subst h
  refine Trip.sr tblOk ?_
  refine Trip.ret (rt1 [])
 intro h
 have h : rg = false := h
 subst h
 rw [Bool.not_false, Bool.true_and]
 refine Trip.skip (Trip.sR tblOk (by repeat' (first | exact rfl | (apply Rule.sem; intro hγ; with_reducible apply F_makeSlice tblOk hγ) | ((with_reducible refine Side.mk ?_); (simp only [ln]; first | done | omega)) | constructor)) ?_)
 refine Trip.seq (Trip.sr tblOk ?_)
 refine Trip.block ?_
 refine Trip.loop (fun (i : Nat) => ⟨[(1, .ref 1 0), (3, .osl 17 0 l.length l.length), (4, iV i)], [(1, .box [.sl nl 3 (l.map It.pv)]), (17, .arr 1 false (enV l i ++ List.replicate (l.length - i) nilS))]⟩) (fun (i : Nat) => i ≤ l.length) (fun (i : Nat) => l.length - i) (0) (by first | omega | (simp; done)) (Weak.kp (ht := by repeat' (first | exact rfl | (refine Side.mk (oslE ?_ ?_) <;> (simp only [ln]; first | done | omega)) | constructor)) (ho := by repeat' (first | exact rfl | exact arrE (by simp [enV]) | constructor)) (huo := by repeat' (first | exact rfl | exact plainL_append (enV_plain _ _) (plainL_rep _ _ rfl) | constructor))) ?_
 intro i hi
 refine Trip.seq (Trip.sr tblOk ?_)
 apply Trip.cond (.tmp rfl)
 ·intro h
  have h : i < l.length := by simp at h; omega
  have c1 := cParse15 l[i]!.body (by have := hb _ (bang_mem h); omega)
  have hen : (ENT l)[i]! = if l[i]!.kind = 2 then (treeOf l[i]!.body).2 else [] := by rw [ENT_get l h]; rfl
  generalize (treeOf l[i]!.body).1 = e1 at *
  generalize (treeOf l[i]!.body).2 = T at *
  have hAl := enV_len l hi
  have hA0 : (enV l i).length = 0 + ((i : Nat) : Int).toNat := by rw [hAl]; simp
  have hjn := en_join l h
  have hpA := enV_plain l i
  have hcA := enV_one l i
  have hpB := plainL_rep (l.length - (i + 1)) nilS rfl
  have hcB := rep_one (l.length - (i + 1))
  have hBl : (List.replicate (l.length - (i + 1)) nilS).length = l.length - (i + 1) := List.length_replicate
  rw [en_split l h]
  generalize hA : enV l i = A at *
  generalize hBq : List.replicate (l.length - (i + 1)) nilS = B at *
  refine Trip.skip ?_
  refine Trip.seqk ⟨[(1, .ref 1 0), (3, .osl 17 0 l.length l.length), (4, iV i)], [(1, .box [.sl nl 3 (l.map It.pv)]), (17, .arr 1 false (A ++ entV (ENT l)[i]! :: B))]⟩ ?_ ?_
  ·refine Trip.block (Trip.sR tblOk (by repeat' (first | exact rfl | exact idx_map _ _ _ (by show _ < _; first | omega | (simp only [List.length_map] at *; omega)) | ((with_reducible refine Side.mk ?_); (simp only [ln]; first | done | omega)) | constructor)) ?_)
   apply Trip.cond (.tmp rfl)
   ·intro h2
    have h2 : l[i]!.kind = 2 := by simpa using h2
    rw [if_pos h2] at hen
    rw [hen]
    refine Trip.R tblOk (by repeat' (first | exact rfl | (apply Rule.sem; intro hγ; with_reducible apply F_call0 (x := .func 50) (B := []) hγ (hspec := c1)) | exact mid_get _ _ _ hA0 | exact idx_map _ _ _ (by show _ < _; first | omega | (simp only [List.length_map] at *; omega)) | ((with_reducible refine Side.mk ?_); first | omega | exact .inl rfl | (simp only [ln]; first | done | omega)) | constructor)) ?_
    exact Weak.kp (ho := by repeat' (first | exact rfl | exact arrE (mid_set _ _ _ _ hA0) | constructor)) (huo := by repeat' (first | exact rfl | exact plainL_append hpA (by simp only [plainL, hpB]; rfl) | constructor))
   ·intro h2
    have h2 : ¬ l[i]!.kind = 2 := by simpa using h2
    rw [if_neg h2] at hen
    rw [hen]
    refine Trip.skip ?_
    refine Weak.turn [] rfl rfl ?_ ?_
    ·repeat' (first | exact rfl | constructor)
    ·exact .box rfl (.cons .sl .nil) (.arrC rfl (convMid hpA hpB hcA hcB rfl rfl .nilS) (lenMid (one_len hcA) (one_len hcB) rfl) .nil)
  rw [← hjn]
  subst hBq
  refine Trip.R tblOk (by repeat' (first | exact rfl | ((with_reducible refine Side.mk ?_); omega) | constructor)) ?_
  exact ⟨i + 1, by first | omega | (dsimp only at *; omega), by first | omega | (dsimp only at *; omega), Weak.kp (huo := by repeat' (first | exact rfl | exact plainL_append (enV_plain _ _) (plainL_rep _ _ rfl) | constructor))⟩
 intro h
 have h : i = l.length := by simp at h; omega
 subst h
 refine Trip.exit (Trip.sR tblOk (by repeat' (first | exact rfl | (apply Rule.sem; intro hγ; with_reducible apply F_makeSlice tblOk hγ) | ((with_reducible refine Side.mk ?_); (simp only [ln]; first | done | omega)) | constructor)) ?_)
 refine Trip.seq (Trip.sr tblOk ?_)
 refine Trip.block ?_
 refine Trip.loop (fun (q : List Int × Bool) => ⟨[(1, .ref 1 0), (3, .osl 17 0 l.length l.length), (5, .osl 48 0 l.length l.length), (6, bV q.2)], [(1, .box [.sl nl 3 (l.map It.pv)]), (17, .arr 1 false ((ENT l).map entV)), (48, .arr 1 false (q.1.map fun x => iV x))]⟩) (fun (q : List Int × Bool) => CalmI l q.1 q.2) (fun (q : List Int × Bool) => 2 * slack q.1 + (if q.2 = true then 1 else 0)) ((List.replicate l.length 0, true)) (by exact CalmI.start l) (Weak.kp (ht := by repeat' (first | exact rfl | (refine Side.mk (oslE ?_ ?_) <;> (simp only [ln]; first | done | omega)) | constructor)) (ho := by repeat' (first | exact rfl | exact arrE (en_end l) | exact arrE (by simp) | constructor)) (huo := by repeat' (first | exact rfl | exact plainL_map _ (fun _ => rfl) _ | constructor))) ?_
 rintro ⟨met, m⟩ hI
 dsimp only at *
 refine Trip.seq (Trip.sr tblOk ?_)
 apply Trip.cond (.tmp rfl)
 ·intro h
  have h : m = true := h
  subst h
  have hno := hI.none
  have hnx := fun a b => hI.next (met' := a) (m' := b)
  have hup := hI.1
  generalize hg0 : goC l l.length 0 met false = g0 at *
  refine Trip.skip (Trip.block (Trip.sr tblOk ?_))
  refine Trip.sr tblOk ?_
  refine Trip.block ?_
  refine Trip.loop (fun (q : Nat × List Int × Bool) => ⟨[(1, .ref 1 0), (3, .osl 17 0 l.length l.length), (5, .osl 48 0 l.length l.length), (6, bV q.2.2), (7, iV q.1)], [(1, .box [.sl nl 3 (l.map It.pv)]), (17, .arr 1 false ((ENT l).map entV)), (48, .arr 1 false (q.2.1.map fun x => iV x))]⟩) (fun (q : Nat × List Int × Bool) => q.1 ≤ l.length ∧ upM l q.2.1 ∧ goC l (l.length - q.1) q.1 q.2.1 q.2.2 = g0) (fun (q : Nat × List Int × Bool) => l.length - q.1) ((0, met, false)) (by exact ⟨Nat.zero_le _, hup, hg0⟩) (Weak.kp (huo := by repeat' (first | exact rfl | exact plainL_map _ (fun _ => rfl) _ | constructor))) ?_
  rintro ⟨i, met2, m2⟩ ⟨hi, hup2, hg⟩
  dsimp only at *
  have hEl := ENT_len l
  have hml := hup2.2.1
  refine Trip.seq (Trip.sR tblOk (by repeat' (first | exact rfl | ((with_reducible refine Side.mk ?_); (simp only [ln]; first | done | omega)) | constructor)) ?_)
  apply Trip.cond (.tmp rfl)
  ·intro h2
   have h2 : i < l.length := by simp at h2; omega
   rw [goC_step l h2] at hg
   have hset := hup2.set h2
   have hEb : (ENT l)[i]!.length ≤ 100000 := by
    rw [ENT_get l h2, ents]
    split
    ·exact Nat.le_trans (treeOf_len _) (hb _ (bang_mem h2))
    ·simp
   have hz : 0 + ((i : Nat) : Int).toNat = i := by simp
   refine Trip.skip (Trip.seq (Trip.block (Trip.sr tblOk ?_)))
   refine Trip.seq (Trip.sr tblOk ?_)
   refine Trip.block ?_
   refine Trip.loop (fun (k : Nat) => ⟨[(1, .ref 1 0), (3, .osl 17 0 l.length l.length), (5, .osl 48 0 l.length l.length), (6, bV m2), (7, iV i), (8, iV (sumM l met2 ((ENT l)[i]!.take k))), (9, iV k)], [(1, .box [.sl nl 3 (l.map It.pv)]), (17, .arr 1 false ((ENT l).map entV)), (48, .arr 1 false (met2.map fun x => iV x))]⟩) (fun (k : Nat) => k ≤ (ENT l)[i]!.length) (fun (k : Nat) => (ENT l)[i]!.length - k) (0) (by first | omega | (simp; done)) (Weak.kp (huo := by repeat' (first | exact rfl | exact plainL_map _ (fun _ => rfl) _ | constructor))) ?_
   intro k hk
   have hsk := fun h : k < (ENT l)[i]!.length => sumM_take (l := l) (met := met2) (ENT l)[i]! h
   have hle := sumM_le (l := l) hup2.1 (ENT l)[i]! k
   have hge := sumM_pos (l := l) hup2.1 ((ENT l)[i]!.take k)
   refine Trip.seq (Trip.sR tblOk (by repeat' (first | exact rfl | exact idx_map _ _ _ (by show _ < _; first | omega | (simp only [List.length_map] at *; omega)) | ((with_reducible refine Side.mk ?_); first | omega | exact fun h => h | exact fun _ h => h | (simp only [ln]; first | done | omega)) | constructor)) ?_)
   apply Trip.cond (.tmp rfl)
   ·intro h3
    have h3 : (decide ((k : Int) < ((((ENT l)[i]!.map En.pv).length : Nat) : Int)) && decide (sumM l met2 ((ENT l)[i]!.take k) ≤ 20000)) = true := by rw [hz] at h3; exact h3
    rw [List.length_map, Bool.and_eq_true, decide_eq_true_eq, decide_eq_true_eq] at h3
    obtain ⟨h3, h4⟩ := h3
    have h3 : k < (ENT l)[i]!.length := by omega
    have h3z : k < (ENT l)[0 + ((i : Nat) : Int).toNat]!.length := by rw [hz]; exact h3
    have hsk := hsk h3
    have hw : wgt l met2 (ENT l)[i]![k]! = 1 + (if (placed l (ENT l)[i]![k]!.id && decide ((ENT l)[i]![k]!.mode = 4)) = true then met2[place l (ENT l)[i]![k]!.id]! else 0) := rfl
    have hpl := placed_lt (l := l) (x := (ENT l)[i]![k]!.id)
    have c2 := cPlace2 nl l (ENT l)[i]![k]!.id (by omega)
    have hxz : (ENT l)[i]![k]! = (ENT l)[0 + ((i : Nat) : Int).toNat]![((k : Nat) : Int).toNat]! := by rw [hz, Int.toNat_natCast]
    have hmb := hup2.1.all (place l (ENT l)[i]![k]!.id)
    generalize hs1 : sumM l met2 ((ENT l)[i]!.take (k + 1)) = s1 at *
    generalize sumM l met2 ((ENT l)[i]!.take k) = s0 at *
    have hmz : placed l (ENT l)[i]![k]!.id = true → 0 + ((place l (ENT l)[i]![k]!.id : Nat) : Int).toNat < met2.length := fun hp => by
     have := (hpl hp).1
     rw [Nat.zero_add, Int.toNat_natCast]; omega
    have hmv : met2[0 + ((place l (ENT l)[i]![k]!.id : Nat) : Int).toNat]! = met2[place l (ENT l)[i]![k]!.id]! := by rw [Nat.zero_add, Int.toNat_natCast]
    generalize hP : place l (ENT l)[i]![k]!.id = pp at *
    generalize placed l (ENT l)[i]![k]!.id = pd at *
    rw [hxz] at c2
    refine Trip.skip ?_
    refine Trip.seqk ⟨[(1, .ref 1 0), (3, .osl 17 0 l.length l.length), (5, .osl 48 0 l.length l.length), (6, bV m2), (7, iV i), (8, iV s1), (9, iV k)], [(1, .box [.sl nl 3 (l.map It.pv)]), (17, .arr 1 false ((ENT l).map entV)), (48, .arr 1 false (met2.map fun x => iV x))]⟩ ?_ ?_
    ·refine Trip.block (Trip.sR tblOk (by repeat' (first | exact rfl | ((with_reducible refine Side.mk ?_); omega) | constructor)) ?_)
     refine Trip.sD tblOk mixed (by repeat' (first | exact rfl | exact idx_map _ _ _ h3z | (apply Rule.sem; intro hγ; with_reducible apply F_call0 (x := .func 47) (B := []) hγ (hspec := c2)) | exact idx_map _ _ _ (by show _ < _; first | omega | (simp only [List.length_map] at *; omega)) | ((with_reducible refine Side.mk ?_); first | omega | exact .inl rfl | (simp only [ln]; first | done | omega) | (simp only [ln] at *; first | done | omega)) | constructor)) ?_
     refine Trip.sR tblOk (by repeat' (first | exact rfl | (apply Rule.under tblOk; intro hγ; with_reducible apply Rule.indexAddr) | exact idx_map _ _ _ (by have h2 := hγ; simp only [gpick, cond_true, cond_false, decide_eq_true_eq, Bool.and_eq_true, Bool.or_eq_true, Bool.not_eq_true', Bool.not_eq_false', Bool.or_eq_false_iff, decide_eq_false_iff_not, List.length_map] at h2; show _ < _; omega) | exact idx_map _ _ _ (by show _ < _; first | omega | (simp only [List.length_map] at *; omega)) | ((with_reducible refine Side.mk ?_); first | omega | exact fun h => h | exact fun _ h => h | (simp only [ln]; first | done | omega) | (simp only [ln] at *; first | done | omega) | exact fun _ => hγ) | constructor)) ?_
     apply Trip.cond (.tmp rfl)
     ·intro h5
      have h5 : (pd && decide ((ENT l)[i]![k]!.mode = 4)) = true := by rw [hz] at h5; exact h5
      rw [if_pos h5] at hw
      have hp : pd = true := by rw [Bool.and_eq_true] at h5; exact h5.1
      have hmz := hmz hp
      refine Trip.R tblOk (by repeat' (first | exact rfl | exact idx_map _ _ _ hmz | ((with_reducible refine Side.mk ?_); first | omega | (simp only [ln]; first | done | omega)) | constructor)) ?_
      exact Weak.kp (ht := by repeat' (first | exact rfl | (refine vI ?_; rw [hmv]; omega) | constructor)) (huo := by repeat' (first | exact rfl | exact plainL_map _ (fun _ => rfl) _ | constructor))
     ·intro h5
      have h5 : ¬ (pd && decide ((ENT l)[i]![k]!.mode = 4)) = true := by rw [hz] at h5; rw [show (pd && decide ((ENT l)[i]![k]!.mode = 4)) = false from h5]; simp
      rw [if_neg h5] at hw
      refine Trip.skip ?_
      exact Weak.kp (ht := by repeat' (first | exact rfl | (refine vI ?_; first | omega | (simp; done) | (simp; omega) | (simp only [List.length_map] at *; omega)) | constructor)) (huo := by repeat' (first | exact rfl | exact plainL_map _ (fun _ => rfl) _ | constructor))
    refine Trip.R tblOk (by repeat' (first | exact rfl | ((with_reducible refine Side.mk ?_); omega) | constructor)) ?_
    exact ⟨k + 1, by first | omega | (dsimp only at *; omega), by first | omega | (dsimp only at *; omega), Weak.kp (ht := by repeat' (first | exact rfl | exact congrArg iV hs1.symm | constructor)) (huo := by repeat' (first | exact rfl | exact plainL_map _ (fun _ => rfl) _ | constructor))⟩
   intro h3
   have h3 : (decide ((k : Int) < ((((ENT l)[i]!.map En.pv).length : Nat) : Int)) && decide (sumM l met2 ((ENT l)[i]!.take k) ≤ 20000)) = false := by rw [hz] at h3; exact h3
   rw [List.length_map, Bool.and_eq_false_iff, decide_eq_false_iff_not, decide_eq_false_iff_not] at h3
   have hkE : sumM l met2 ((ENT l)[i]!.take k) ≤ 20000 → sumM l met2 ((ENT l)[i]!.take k) = sumM l met2 (ENT l)[i]! := fun h => by
    rw [List.take_of_length_le (by omega)]
   generalize sumM l met2 ((ENT l)[i]!.take k) = s0 at *
   generalize sumM l met2 (ENT l)[i]! = S at *
   refine Trip.exit (Trip.seq (Trip.sr tblOk ?_))
   apply Trip.cond (.tmp rfl)
   ·intro h4
    have h4 : 20000 < s0 := by simpa using h4
    rw [if_pos (by omega)] at hg
    rw [hno hg.symm]
    refine Trip.sr tblOk ?_
    refine Trip.ret (rt1 [] (hc := by repeat' (exact cvB (by simp only [List.length_map]))))
   intro h4
   have h4 : s0 ≤ 20000 := by simp at h4; omega
   have hkE := hkE h4
   subst hkE
   rw [if_neg (by omega)] at hg
   refine Trip.skip (Trip.sR tblOk (by repeat' (first | exact rfl | (apply Rule.under tblOk; intro hγ; with_reducible apply Rule.indexAddr) | exact idx_map _ _ _ (by rw [hz]; omega) | ((with_reducible refine Side.mk ?_); first | omega | exact fun h => h | exact fun _ h => congrArg Bool.not h | (simp only [ln]; first | done | omega) | exact fun _ => hγ) | constructor)) ?_)
   refine Trip.R tblOk (by repeat' (first | exact rfl | exact idx_map _ _ _ (by rw [hz]; omega) | ((with_reducible refine Side.mk ?_); first | omega | (simp only [ln]; first | done | omega)) | constructor)) ?_
   refine Trip.R tblOk (by repeat' (first | exact rfl | ((with_reducible refine Side.mk ?_); omega) | constructor)) ?_
   exact ⟨(i + 1, met2.set i s0, m2 || !decide (s0 = met2[i]!)), by exact ⟨by omega, hset (by omega), hg⟩, by first | omega | (dsimp only at *; omega), Weak.kp (ht := by repeat' (first | exact rfl | (rw [hz]; rfl) | constructor)) (ho := by repeat' (first | exact rfl | (refine arrE ?_; rw [hz]; simp [List.map_set]; done) | constructor)) (huo := by repeat' (first | exact rfl | exact plainL_map _ (fun _ => rfl) _ | constructor))⟩
  intro h2
  have h2 : i = l.length := by simp at h2; omega
  subst h2
  rw [Nat.sub_self] at hg
  have hg : some (met2, m2) = g0 := hg
  have hnx := hnx met2 m2 hg.symm
  have hn2 : 2 * slack met2 + (if m2 = true then 1 else 0) < 2 * slack met + 1 := hnx.2
  have hf : (if true = true then (1 : Nat) else 0) = 1 := rfl
  refine Trip.exit ?_
  exact ⟨(met2, m2), by exact hnx.1, by first | omega | (dsimp only at *; omega), Weak.kp (huo := by repeat' (first | exact rfl | exact plainL_map _ (fun _ => rfl) _ | constructor))⟩
 intro h
 have h : m = false := h
 subst h
 rw [hI.done]
 refine Trip.exit (Trip.sr tblOk ?_)
 refine Trip.ret (rt1 [] (hc := by repeat' (exact cvB (by simp only [List.length_map]))))
theorem cSmall (nl : Bool) (l : List It) : Ctr prog 11 [stPV nl l] [] (bV (smallP l)) [] [] := by
 have hS : smallP l = (decide ((l.length : Int) ≤ 80) && (l.all fun x => decide ((x.body.length : Int) ≤ 4000)) && (rightSt l && calmP l)) := rfl
 rw [hS]
 refine Ctr.enter tblOk func11 rfl (by decide) rfl (nt := 29) rfl rfl rfl rfl ?_
 refine Trip.sr tblOk ?_
 refine Trip.seq (Trip.sr tblOk ?_)
 apply Trip.cond (.tmp rfl)
 ·intro h
  have h : ¬ (l.length : Int) ≤ 80 := by simp at h; omega
  rw [decide_eq_false h, Bool.false_and, Bool.false_and]
  refine Trip.sr tblOk ?_
  refine Trip.ret (rt1 [] (hc := by repeat' (exact cvB (by simp only [List.length_map]))))
 intro h
 have h : (l.length : Int) ≤ 80 := by simp at h; omega
 rw [decide_eq_true h, Bool.true_and]
 refine Trip.skip (Trip.seq (Trip.sr tblOk ?_))
 refine Trip.block ?_
 refine Trip.loop (fun (i : Nat) => ⟨[(1, .ref 1 0), (3, iV i)], [(1, .box [.sl nl 3 (l.map It.pv)])]⟩) (fun (i : Nat) => i ≤ l.length ∧ ∀ j, j < i → l[j]!.body.length ≤ 4000) (fun (i : Nat) => l.length - i) (0) (by exact ⟨Nat.zero_le _, fun j hj => absurd hj (by omega)⟩) Weak.kp ?_
 rintro i ⟨hi, hj⟩
 refine Trip.seq (Trip.sr tblOk ?_)
 apply Trip.cond (.tmp rfl)
 ·intro h2
  have h2 : i < l.length := by simp at h2; omega
  refine Trip.skip (Trip.seq (Trip.block (Trip.sR tblOk (by repeat' (first | exact rfl | exact idx_map _ _ _ (by show _ < _; first | omega | (simp only [List.length_map] at *; omega)) | ((with_reducible refine Side.mk ?_); (simp only [ln]; first | done | omega)) | constructor)) ?_)))
  apply Trip.cond (.tmp rfl)
  ·intro h3
   have h3 : ¬ (l[i]!.body.length : Int) ≤ 4000 := by
    have h3 : decide ((4000 : Int) < (l[i]!.body.length : Nat)) = true := h3
    rw [decide_eq_true_eq] at h3; omega
   have : (l.all fun x => decide ((x.body.length : Int) ≤ 4000)) = false := by
    rw [List.all_eq_false]
    exact ⟨_, bang_mem h2, by rw [decide_eq_false h3]; simp⟩
   rw [this, Bool.false_and]
   refine Trip.sr tblOk ?_
   refine Trip.ret (rt1 [] (hc := by repeat' (exact cvB (by simp only [List.length_map]))))
  intro h3
  have h3 : l[i]!.body.length ≤ 4000 := by
   have h3 : decide ((4000 : Int) < (l[i]!.body.length : Nat)) = false := h3
   rw [decide_eq_false_iff_not] at h3; omega
  refine Trip.skip (Trip.R tblOk (by repeat' (first | exact rfl | ((with_reducible refine Side.mk ?_); omega) | constructor)) ?_)
  exact ⟨i + 1, by exact ⟨by omega, fun j h4 => (Nat.lt_succ_iff_lt_or_eq.1 h4).elim (hj j) (fun e => e ▸ h3)⟩, by first | omega | (dsimp only at *; omega), Weak.kp⟩
 intro h2
 have h2 : i = l.length := by simp at h2; omega
 subst h2
 have hall : ∀ x ∈ l, x.body.length ≤ 4000 := fun x hx => by
  obtain ⟨j, hj1, hj2⟩ := List.mem_iff_getElem.1 hx
  have := hj j hj1
  rwa [getElem!_pos l j hj1, hj2] at this
 have : (l.all fun x => decide ((x.body.length : Int) ≤ 4000)) = true := by
  rw [List.all_eq_true]
  exact fun x hx => decide_eq_true (by have := hall x hx; omega)
 rw [this, Bool.true_and]
 have c1 := cRight17 nl l (by omega)
 have c2 := cCalm nl l (by omega) (fun x hx => by have := hall x hx; omega)
 generalize rightSt l = r at *
 generalize calmP l = r2 at *
 refine Trip.exit (Trip.sR tblOk (by repeat' (first | exact rfl | (apply Rule.sem; intro hγ; with_reducible apply F_call0 (x := .func 10) (B := []) hγ (hspec := c1)) | (apply Rule.sem; intro hγ; with_reducible apply F_call0 (x := .func 42) (B := []) hγ (hspec := c2)) | ((with_reducible refine Side.mk ?_); first | exact .inl rfl | exact fun h => h | exact fun _ h => h) | constructor)) ?_)
 refine Trip.ret (rt1 [] (hc := by repeat' (exact cvB (by simp only [List.length_map]))))
end Go.Proofs.Tryz
namespace Go.Graft
open Go.Sym
theorem uni_nil (a : List It) : uni a [] = a := by cases a <;> rw [uni]
theorem uniC_nil (a : List It) : uniC a [] = false := by cases a <;> rw [uniC]
theorem hd_tl {l : List It} (h : 0 < l.length) : l = l[0]! :: l.drop 1 := by
 cases l with
 | nil => simp at h
 | cons x r => rfl
theorem uni_left {X Y : List It} (hX : 0 < X.length) (h : Y.length = 0 ∨ (0 < Y.length ∧ Op.bytesLess X[0]!.id Y[0]!.id = true)) : uni X Y = X[0]! :: uni (X.drop 1) Y ∧ uniC X Y = uniC (X.drop 1) Y := by
 rw [hd_tl hX]
 simp only [List.drop_succ_cons, List.drop_zero]
 show uni (X[0]! :: X.drop 1) Y = X[0]! :: uni (X.drop 1) Y ∧ uniC (X[0]! :: X.drop 1) Y = uniC (X.drop 1) Y
 generalize X[0]! = x at *
 generalize X.drop 1 = X' at *
 rcases h with h | ⟨h1, h2⟩
 ·have : Y = [] := List.length_eq_zero_iff.1 h
  subst this
  rw [uni_nil, uni_nil, uniC_nil, uniC_nil]; exact ⟨rfl, rfl⟩
 ·rw [hd_tl h1]
  have e : (Y[0]! :: Y.drop 1)[0]! = Y[0]! := rfl
  generalize Y[0]! = y at *
  generalize Y.drop 1 = Y' at *
  rw [uni, uniC, if_pos h2, if_pos h2]; exact ⟨rfl, rfl⟩
theorem uni_right {X Y : List It} (hY : 0 < Y.length) (h : X.length = 0 ∨ (0 < X.length ∧ Op.bytesLess X[0]!.id Y[0]!.id = false ∧ Op.bytesLess Y[0]!.id X[0]!.id = true)) : uni X Y = Y[0]! :: uni X (Y.drop 1) ∧ uniC X Y = uniC X (Y.drop 1) := by
 rw [hd_tl hY]
 show uni X (Y[0]! :: Y.drop 1) = Y[0]! :: uni X (Y.drop 1) ∧ uniC X (Y[0]! :: Y.drop 1) = uniC X (Y.drop 1)
 generalize Y[0]! = y at *
 generalize Y.drop 1 = Y' at *
 rcases h with h | ⟨h1, h2, h3⟩
 ·have : X = [] := List.length_eq_zero_iff.1 h
  subst this
  rw [uni, uni, uniC, uniC]; exact ⟨rfl, rfl⟩
 ·rw [hd_tl h1]
  generalize X[0]! = x at *
  generalize X.drop 1 = X' at *
  rw [uni, uniC, h2, h3]; exact ⟨rfl, rfl⟩
theorem uni_both {X Y : List It} (hX : 0 < X.length) (hY : 0 < Y.length) (h2 : Op.bytesLess X[0]!.id Y[0]!.id = false) (h3 : Op.bytesLess Y[0]!.id X[0]!.id = false) : uni X Y = X[0]! :: uni (X.drop 1) (Y.drop 1) ∧ uniC X Y = (!decide (X[0]! = Y[0]!) || uniC (X.drop 1) (Y.drop 1)) := by
 rw [hd_tl hX, hd_tl hY]
 show uni (X[0]! :: X.drop 1) (Y[0]! :: Y.drop 1) = X[0]! :: uni (X.drop 1) (Y.drop 1) ∧ uniC (X[0]! :: X.drop 1) (Y[0]! :: Y.drop 1) = (!decide (X[0]! = Y[0]!) || uniC (X.drop 1) (Y.drop 1))
 generalize X[0]! = x at *
 generalize X.drop 1 = X' at *
 generalize Y[0]! = y at *
 generalize Y.drop 1 = Y' at *
 rw [uni, uniC, h2, h3]; exact ⟨rfl, rfl⟩
theorem drop_bang {l : List It} {i : Nat} (h : i < l.length) : (l.drop i)[0]! = l[i]! := by
 rw [getElem!_pos (l.drop i) 0 (by rw [List.length_drop]; omega), getElem!_pos l i h, List.getElem_drop]; rfl
theorem drop_one (l : List It) (i : Nat) : (l.drop i).drop 1 = l.drop (i + 1) := by rw [List.drop_drop]
def Uni (a b : List It) (X Y F : List It) (c : Bool) : Prop := F ++ uni X Y = uni a b ∧ (c || uniC X Y) = uniC a b ∧ F.length + X.length + Y.length ≤ a.length + b.length
theorem Uni.zero (a b : List It) : Uni a b a b [] false := ⟨rfl, rfl, by simp⟩
theorem Uni.left {a b X Y F : List It} {c : Bool} (h : Uni a b X Y F c) (hX : 0 < X.length) (h1 : Y.length = 0 ∨ (0 < Y.length ∧ Op.bytesLess X[0]!.id Y[0]!.id = true)) : Uni a b (X.drop 1) Y (F ++ [X[0]!]) c := by
 obtain ⟨g1, g2, g3⟩ := h
 obtain ⟨k1, k2⟩ := uni_left hX h1
 refine ⟨by rw [← g1, k1]; simp, by rw [← g2, k2], by simp only [List.length_append, List.length_singleton, List.length_drop]; omega⟩
theorem Uni.right {a b X Y F : List It} {c : Bool} (h : Uni a b X Y F c) (hY : 0 < Y.length) (h1 : X.length = 0 ∨ (0 < X.length ∧ Op.bytesLess X[0]!.id Y[0]!.id = false ∧ Op.bytesLess Y[0]!.id X[0]!.id = true)) : Uni a b X (Y.drop 1) (F ++ [Y[0]!]) c := by
 obtain ⟨g1, g2, g3⟩ := h
 obtain ⟨k1, k2⟩ := uni_right hY h1
 refine ⟨by rw [← g1, k1]; simp, by rw [← g2, k2], by simp only [List.length_append, List.length_singleton, List.length_drop]; omega⟩
theorem Uni.both {a b X Y F : List It} {c : Bool} (h : Uni a b X Y F c) (hX : 0 < X.length) (hY : 0 < Y.length) (h2 : Op.bytesLess X[0]!.id Y[0]!.id = false) (h3 : Op.bytesLess Y[0]!.id X[0]!.id = false) : Uni a b (X.drop 1) (Y.drop 1) (F ++ [X[0]!]) (c || !decide (X[0]! = Y[0]!)) := by
 obtain ⟨g1, g2, g3⟩ := h
 obtain ⟨k1, k2⟩ := uni_both hX hY h2 h3
 refine ⟨by rw [← g1, k1]; simp, by rw [← g2, k2, Bool.or_assoc], by simp only [List.length_append, List.length_singleton, List.length_drop]; omega⟩
theorem Uni.done {a b F : List It} {c : Bool} (h : Uni a b [] [] F c) : uni a b = F ∧ uniC a b = c := by
 obtain ⟨g1, g2, _⟩ := h
 rw [uni] at g1
 rw [uniC, Bool.or_false] at g2
 exact ⟨by simpa using g1.symm, g2.symm⟩
theorem Uni.clash {a b X Y F : List It} (h : Uni a b X Y F false) (hX : 0 < X.length) (hY : 0 < Y.length) (h2 : Op.bytesLess X[0]!.id Y[0]!.id = false) (h3 : Op.bytesLess Y[0]!.id X[0]!.id = false) (h4 : X[0]! ≠ Y[0]!) : uniC a b = true := by
 obtain ⟨_, g2, _⟩ := h
 obtain ⟨_, k2⟩ := uni_both hX hY h2 h3
 rw [← g2, k2, decide_eq_false h4]; rfl
end Go.Graft
