/- A part of the proof: GCalm, Sk. -/
import Derived.Test.YteailifhgfijgaaGreatDoorPart37
set_option linter.unusedVariables false
set_option linter.unusedSimpArgs false
namespace Go.Graft
open Go.Sym
def linkAt (l : List It) (x : It) : List Nat := ((linksOf x.kind x.body).filter (placed l)).map (place l)
def LK (l : List It) : List (List Nat) := l.map (linkAt l)
theorem linkAt_lt {l : List It} {x : It} {j : Nat} (h : j ∈ linkAt l x) : j < l.length := by
 simp only [linkAt, List.mem_map, List.mem_filter] at h
 obtain ⟨y, ⟨_, h2⟩, rfl⟩ := h
 exact (placed_lt h2).1
theorem LK_len (l : List It) : (LK l).length = l.length := List.length_map _
theorem LK_get (l : List It) {i : Nat} (h : i < l.length) : (LK l)[i]! = linkAt l l[i]! := by
 rw [getElem!_pos _ i (by rw [LK_len]; exact h), getElem!_pos l i h]; simp [LK]
def endsP (L : List (List Nat)) (d : List Bool) (i : Nat) : Bool := !d[i]! && L[i]!.all fun j => d[j]!
def goR (L : List (List Nat)) : Nat → Nat → List Bool → Bool → List Bool × Bool
 | 0, _, d, m => (d, m)
 | k + 1, i, d, m => if endsP L d i = true then goR L k (i + 1) (d.set i true) true else goR L k (i + 1) d m
def cntF (d : List Bool) : Nat := d.count false
theorem cntF_set {d : List Bool} {i : Nat} (h : i < d.length) (h2 : d[i]! = false) : cntF (d.set i true) + 1 = cntF d := by
 rw [getElem!_pos d i h] at h2
 have h3 : 0 < d.count false := List.count_pos_iff.2 (h2 ▸ List.getElem_mem h)
 rw [cntF, cntF, List.count_set h, h2]
 simp
 omega
def itR (L : List (List Nat)) (n : Nat) : Nat → List Bool → List Bool
 | 0, d => d
 | f + 1, d => if (goR L n 0 d false).2 = true then itR L n f (goR L n 0 d false).1 else (goR L n 0 d false).1
theorem goR_len (L : List (List Nat)) : ∀ k i d m, (goR L k i d m).1.length = d.length
 | 0, _, _, _ => rfl
 | k + 1, i, d, m => by
  rw [goR]
  split
  ·rw [goR_len L k]; simp
  ·exact goR_len L k _ _ _
theorem goR_cnt (L : List (List Nat)) : ∀ k i d m, i + k ≤ d.length → cntF (goR L k i d m).1 ≤ cntF d ∧ ((goR L k i d m).2 = true → m = true ∨ cntF (goR L k i d m).1 < cntF d)
 | 0, _, _, _, _ => ⟨Nat.le_refl _, fun h => .inl h⟩
 | k + 1, i, d, m, h => by
  rw [goR]
  split
  ·rename_i he
   have h2 : d[i]! = false := by
    simp only [endsP, Bool.and_eq_true, Bool.not_eq_true'] at he; exact he.1
   have h3 := cntF_set (by omega) h2
   have h4 := goR_cnt L k (i + 1) (d.set i true) true (by simp; omega)
   exact ⟨by omega, fun _ => .inr (by omega)⟩
  ·exact goR_cnt L k (i + 1) d m (by omega)
def ringP (l : List It) : Bool := decide ((0 : Int) < (cntF (itR (LK l) l.length (l.length + 1) (List.replicate l.length false)) : Nat))
def RingI (l : List It) (d : List Bool) (m : Bool) : Prop := d.length = l.length ∧ ∃ f, (m = true → itR (LK l) l.length f d = itR (LK l) l.length (l.length + 1) (List.replicate l.length false) ∧ cntF d < f) ∧ (m = false → d = itR (LK l) l.length (l.length + 1) (List.replicate l.length false))
theorem RingI.start (l : List It) : RingI l (List.replicate l.length false) true := ⟨by simp, l.length + 1, fun _ => ⟨rfl, by rw [cntF]; simp⟩, fun h => by simp at h⟩
theorem RingI.next {l : List It} {d : List Bool} (h : RingI l d true) : RingI l (goR (LK l) l.length 0 d false).1 (goR (LK l) l.length 0 d false).2 ∧ 2 * cntF (goR (LK l) l.length 0 d false).1 + (if (goR (LK l) l.length 0 d false).2 = true then 1 else 0) < 2 * cntF d + 1 := by
 obtain ⟨h1, f, h2, _⟩ := h
 obtain ⟨h3, h4⟩ := h2 rfl
 have hc := goR_cnt (LK l) l.length 0 d false (by omega)
 cases f with
 | zero => omega
 | succ f =>
  rw [itR] at h3
  cases hm : (goR (LK l) l.length 0 d false).2 with
  | true =>
   have := (hc.2 hm).resolve_left (by simp)
   rw [hm, if_pos rfl] at h3
   exact ⟨⟨by rw [goR_len]; exact h1, f, fun _ => ⟨h3, by omega⟩, fun k => by simp at k⟩, by simp; omega⟩
  | false =>
   rw [hm, if_neg (by simp)] at h3
   exact ⟨⟨by rw [goR_len]; exact h1, 0, fun k => by simp at k, fun _ => h3⟩, by simp; omega⟩
theorem RingI.done {l : List It} {d : List Bool} (h : RingI l d false) : ringP l = decide ((0 : Int) < (cntF d : Nat)) := by
 obtain ⟨_, f, _, h2⟩ := h
 rw [ringP, ← h2 rfl]
theorem cntF_le (d : List Bool) : cntF d ≤ d.length := List.count_le_length
def ents (x : It) : List En := if x.kind = 2 then (treeOf x.body).2 else []
def ENT (l : List It) : List (List En) := l.map ents
theorem ENT_len (l : List It) : (ENT l).length = l.length := List.length_map _
theorem ENT_get (l : List It) {i : Nat} (h : i < l.length) : (ENT l)[i]! = ents l[i]! := by
 rw [getElem!_pos _ i (by rw [ENT_len]; exact h), getElem!_pos l i h]; simp [ENT]
def wgt (l : List It) (met : List Int) (e : En) : Int := 1 + (if (placed l e.id && decide (e.mode = 4)) = true then met[place l e.id]! else 0)
def sumM (l : List It) (met : List Int) : List En → Int
 | [] => 0
 | e :: r => wgt l met e + sumM l met r
theorem sumM_app (l : List It) (met : List Int) : ∀ a b, sumM l met (a ++ b) = sumM l met a + sumM l met b
 | [], b => by simp [sumM]
 | e :: r, b => by rw [List.cons_append, sumM, sumM, sumM_app l met r b]; omega
def okM (met : List Int) : Prop := ∀ i, i < met.length → 0 ≤ met[i]! ∧ met[i]! ≤ 20000
theorem okM.all {met : List Int} (h : okM met) (i : Nat) : 0 ≤ met[i]! ∧ met[i]! ≤ 20000 := by
 by_cases hi : i < met.length
 ·exact h i hi
 ·rw [getElem!_neg met i hi]; exact ⟨Int.le_refl _, by decide⟩
theorem wgt_pos {l : List It} {met : List Int} (h : okM met) (e : En) : 1 ≤ wgt l met e ∧ wgt l met e ≤ 20001 := by
 have := h.all (place l e.id)
 rw [wgt]; split <;> omega
theorem sumM_pos {l : List It} {met : List Int} (h : okM met) : ∀ a, 0 ≤ sumM l met a
 | [] => Int.le_refl _
 | e :: r => by have := wgt_pos (l := l) h e; have := sumM_pos (l := l) h r; rw [sumM]; omega
theorem sumM_take {l : List It} {met : List Int} (E : List En) {k : Nat} (hk : k < E.length) : sumM l met (E.take (k + 1)) = sumM l met (E.take k) + wgt l met E[k]! := by
 rw [take_snoc E k hk, sumM_app]; simp [sumM]
theorem sumM_le {l : List It} {met : List Int} (h : okM met) (E : List En) (k : Nat) : sumM l met (E.take k) ≤ sumM l met E := by
 have h1 := sumM_app l met (E.take k) (E.drop k)
 rw [List.take_append_drop] at h1
 have := sumM_pos (l := l) h (E.drop k)
 omega
def goC (l : List It) : Nat → Nat → List Int → Bool → Option (List Int × Bool)
 | 0, _, met, m => some (met, m)
 | k + 1, i, met, m => if 20000 < sumM l met (ENT l)[i]! then none else goC l k (i + 1) (met.set i (sumM l met (ENT l)[i]!)) (m || !decide (sumM l met (ENT l)[i]! = met[i]!))
def itC (l : List It) : Nat → List Int → Bool
 | 0, _ => true
 | f + 1, met => match goC l l.length 0 met false with
  | none => false
  | some (met', m) => if m = true then itC l f met' else true
def slack : List Int → Nat
 | [] => 0
 | x :: r => (20000 - x).toNat + slack r
theorem slack_set : ∀ (met : List Int) (i : Nat) (v : Int), i < met.length → met[i]! ≤ v → v ≤ 20000 → slack (met.set i v) + (v - met[i]!).toNat = slack met
 | [], i, v, h, _, _ => by simp at h
 | x :: r, 0, v, h, h1, h2 => by
  simp only [List.getElem!_cons_zero] at h1 ⊢
  rw [List.set_cons_zero, slack, slack]; omega
 | x :: r, i + 1, v, h, h1, h2 => by
  simp only [List.getElem!_cons_succ] at h1 ⊢
  have := slack_set r i v (by simpa using h) h1 h2
  rw [List.set_cons_succ, slack, slack]; omega
theorem set_bang (met : List Int) (i j : Nat) (v : Int) (h : i < met.length) : (met.set i v)[j]! = if i = j then v else met[j]! := by
 by_cases hj : j < met.length
 ·rw [getElem!_pos _ j (by simpa using hj), getElem!_pos met j hj, List.getElem_set]
 ·rw [getElem!_neg _ j (by simpa using hj), getElem!_neg met j hj, if_neg (by omega)]
def upM (l : List It) (met : List Int) : Prop := okM met ∧ met.length = l.length ∧ ∀ i, i < l.length → met[i]! ≤ sumM l met (ENT l)[i]!
theorem sumM_mono {l : List It} {met met' : List Int} (h : ∀ j : Nat, met[j]! ≤ met'[j]!) : ∀ E, sumM l met E ≤ sumM l met' E
 | [] => Int.le_refl _
 | e :: r => by
  have := sumM_mono (l := l) h r
  have := h (place l e.id)
  rw [sumM, sumM, wgt, wgt]
  split <;> omega
theorem upM.set {l : List It} {met : List Int} (h : upM l met) {i : Nat} (hi : i < l.length) (hs : sumM l met (ENT l)[i]! ≤ 20000) : upM l (met.set i (sumM l met (ENT l)[i]!)) := by
 obtain ⟨h1, h2, h3⟩ := h
 have hi2 : i < met.length := by omega
 have hle := h3 i hi
 have hmono : ∀ j : Nat, met[j]! ≤ (met.set i (sumM l met (ENT l)[i]!))[j]! := fun j => by
  rw [set_bang met i j _ hi2]
  split
  ·rename_i e; subst e; exact hle
  ·exact Int.le_refl _
 refine ⟨fun j hj => ?_, by simpa using h2, fun j hj => ?_⟩
 ·rw [set_bang met i j _ hi2]
  split
  ·exact ⟨by have := sumM_pos (l := l) h1 (ENT l)[i]!; omega, hs⟩
  ·exact h1.all j
 ·have hm := sumM_mono (l := l) hmono (ENT l)[j]!
  rw [set_bang met i j _ hi2]
  split
  ·rename_i e; subst e; exact hm
  ·have := h3 j hj; omega
theorem goC_up (l : List It) : ∀ k i met m, upM l met → i + k ≤ l.length → ∀ met' m', goC l k i met m = some (met', m') → upM l met' ∧ slack met' ≤ slack met ∧ (m' = true → m = true ∨ slack met' < slack met)
 | 0, _, met, m, h, _, met', m', he => by
  simp only [goC, Option.some.injEq, Prod.mk.injEq] at he
  obtain ⟨rfl, rfl⟩ := he
  exact ⟨h, Nat.le_refl _, fun h => .inl h⟩
 | k + 1, i, met, m, h, hik, met', m', he => by
  rw [goC] at he
  split at he
  ·simp at he
  ·rename_i hs
   have h1 := h.set (i := i) (by omega) (by omega)
   have h2 := slack_set met i (sumM l met (ENT l)[i]!) (by have := h.2.1; omega) (h.2.2 i (by omega)) (by omega)
   obtain ⟨h3, h4, h5⟩ := goC_up l k (i + 1) _ _ h1 (by omega) met' m' he
   have h6 := h.2.2 i (by omega)
   refine ⟨h3, by omega, fun hm => ?_⟩
   rcases h5 hm with h5 | h5
   ·rw [Bool.or_eq_true] at h5
    rcases h5 with h5 | h5
    ·exact .inl h5
    ·right
     rw [Bool.not_eq_true', decide_eq_false_iff_not] at h5
     omega
   ·right; omega
def calmP (l : List It) : Bool := !ringP l && itC l (l.length * 20000 + 1) (List.replicate l.length 0)
theorem slack_zero : ∀ n, slack (List.replicate n 0) = n * 20000
 | 0 => rfl
 | n + 1 => by rw [List.replicate_succ, slack, slack_zero n]; omega
theorem upM_zero (l : List It) : upM l (List.replicate l.length 0) := by
 have h0 : ∀ i : Nat, (List.replicate l.length (0 : Int))[i]! = 0 := fun i => by
  by_cases h : i < l.length
  ·rw [getElem!_pos _ i (by simpa using h)]; simp
  ·rw [getElem!_neg _ i (by simpa using h)]; rfl
 have h1 : okM (List.replicate l.length 0) := fun i _ => by rw [h0]; exact ⟨Int.le_refl _, by decide⟩
 exact ⟨h1, by simp, fun i _ => by rw [h0]; exact sumM_pos h1 _⟩
def CalmI (l : List It) (met : List Int) (m : Bool) : Prop := upM l met ∧ ∃ f, (m = true → itC l f met = itC l (l.length * 20000 + 1) (List.replicate l.length 0) ∧ slack met < f) ∧ (m = false → itC l (l.length * 20000 + 1) (List.replicate l.length 0) = true)
theorem CalmI.start (l : List It) : CalmI l (List.replicate l.length 0) true := ⟨upM_zero l, _, fun _ => ⟨rfl, by rw [slack_zero]; omega⟩, fun h => by simp at h⟩
theorem CalmI.none {l : List It} {met : List Int} (h : CalmI l met true) (he : goC l l.length 0 met false = none) : itC l (l.length * 20000 + 1) (List.replicate l.length 0) = false := by
 obtain ⟨_, f, h2, _⟩ := h
 obtain ⟨h3, h4⟩ := h2 rfl
 cases f with
 | zero => omega
 | succ f => rw [← h3, itC, he]
theorem CalmI.next {l : List It} {met met' : List Int} {m' : Bool} (h : CalmI l met true) (he : goC l l.length 0 met false = some (met', m')) : CalmI l met' m' ∧ 2 * slack met' + (if m' = true then 1 else 0) < 2 * slack met + 1 := by
 obtain ⟨h1, f, h2, _⟩ := h
 obtain ⟨h3, h4⟩ := h2 rfl
 obtain ⟨k1, k2, k3⟩ := goC_up l _ _ _ _ h1 (by omega) met' m' he
 cases f with
 | zero => omega
 | succ f =>
  rw [itC, he] at h3
  simp only [] at h3
  cases m' with
  | true =>
   have := (k3 rfl).resolve_left (by simp)
   rw [if_pos rfl] at h3
   exact ⟨⟨k1, f, fun _ => ⟨h3, by omega⟩, fun k => by simp at k⟩, by simp; omega⟩
  | false =>
   rw [if_neg (by simp)] at h3
   exact ⟨⟨k1, 0, fun k => by simp at k, fun _ => h3.symm⟩, by simp; omega⟩
theorem CalmI.done {l : List It} {met : List Int} (h : CalmI l met false) : itC l (l.length * 20000 + 1) (List.replicate l.length 0) = true := by
 obtain ⟨_, f, _, h2⟩ := h
 exact h2 rfl
end Go.Graft
namespace Go.Proofs.Tryz
open Go Go.Sym Go.Graft
set_option maxRecDepth 20000
abbrev rowV (r : List Nat) : PV := .sl r.isEmpty 1 (r.map fun j => iV (j : Nat))
def lkV (l : List It) (i : Nat) : List PV := ((LK l).take i).map rowV
def lkN (l : List It) (N : List Str) (k : Nat) : List Nat := ((N.take k).filter (placed l)).map (place l)
theorem lkV_len (l : List It) {i : Nat} (h : i ≤ l.length) : (lkV l i).length = i := by
 rw [lkV, List.length_map, List.length_take, LK_len]; omega
theorem lkV_plain (l : List It) (i : Nat) : plainL (lkV l i) = true := plainL_map _ (fun _ => rfl) _
theorem lkV_one (l : List It) (i : Nat) : ∀ z ∈ lkV l i, z.cells = [z] := fun z hz => by
 obtain ⟨r, _, rfl⟩ := List.mem_map.1 hz; rfl
theorem rep_one (n : Nat) : ∀ z ∈ List.replicate n nilS, z.cells = [z] := fun z hz => by
 rw [(List.mem_replicate.1 hz).2]; rfl
theorem one_len {A : List PV} (h : ∀ z ∈ A, z.cells = [z]) : ∀ z ∈ A, z.cells.length = 1 := fun z hz => by rw [h z hz]; rfl
theorem lkV_succ (l : List It) {i : Nat} (h : i < l.length) : lkV l (i + 1) = lkV l i ++ [rowV (LK l)[i]!] := by
 rw [lkV, take_snoc (LK l) i (by rw [LK_len]; exact h), List.map_append]; rfl
theorem lkN_succ (l : List It) (N : List Str) {k : Nat} (h : k < N.length) : lkN l N (k + 1) = if placed l N[k]! = true then lkN l N k ++ [place l N[k]!] else lkN l N k := by
 rw [lkN, take_snoc N k h, List.filter_append, List.map_append]
 split
 ·rename_i hp; rw [List.filter_cons_of_pos hp]; rfl
 ·rename_i hp; rw [List.filter_cons_of_neg hp]; simp [lkN]
theorem lkN_all (l : List It) (x : It) : lkN l (linksOf x.kind x.body) (linksOf x.kind x.body).length = linkAt l x := by
 rw [lkN, List.take_length]; rfl
theorem lkN_len (l : List It) (N : List Str) (k : Nat) : (lkN l N k).length ≤ k := by
 rw [lkN, List.length_map]
 exact Nat.le_trans (List.length_filter_le _ _) (by rw [List.length_take]; omega)
theorem lk_split (l : List It) {i : Nat} (h : i < l.length) : lkV l i ++ List.replicate (l.length - i) nilS = lkV l i ++ nilS :: List.replicate (l.length - (i + 1)) nilS := by
 rw [show l.length - i = (l.length - (i + 1)) + 1 by omega, List.replicate_succ]
theorem lk_join (l : List It) {i : Nat} (h : i < l.length) : lkV l (i + 1) ++ List.replicate (l.length - (i + 1)) nilS = lkV l i ++ rowV (LK l)[i]! :: List.replicate (l.length - (i + 1)) nilS := by
 rw [lkV_succ l h, List.append_assoc]; rfl
theorem lk_end (l : List It) : lkV l l.length ++ List.replicate (l.length - l.length) nilS = (LK l).map rowV := by
 rw [Nat.sub_self, List.replicate_zero, List.append_nil, lkV, List.take_of_length_le (by rw [LK_len]; exact Nat.le_refl _)]
theorem goR_step (L : List (List Nat)) {n i : Nat} (h : i < n) (d : List Bool) (m : Bool) : goR L (n - i) i d m = if endsP L d i = true then goR L (n - (i + 1)) (i + 1) (d.set i true) true else goR L (n - (i + 1)) (i + 1) d m := by
 rw [show n - i = (n - (i + 1)) + 1 by omega, goR]
set_option maxHeartbeats 1000000 in
theorem cRinged (nl : Bool) (l : List It) (hs : l.length ≤ 100000) : Ctr prog 45 [stPV nl l] [] (bV (ringP l)) [] [] := by
 refine Ctr.enter tblOk func45 rfl (by decide) rfl (nt := 120) rfl rfl rfl rfl ?_
 refine Trip.sr tblOk ?_
 refine Trip.sR tblOk (by repeat' (first | exact rfl | (apply Rule.sem; intro hγ; with_reducible apply F_makeSlice tblOk hγ) | ((with_reducible refine Side.mk ?_); (simp only [ln]; first | done | omega)) | constructor)) ?_
 refine Trip.seq (Trip.sr tblOk ?_)
 refine Trip.block ?_
 refine Trip.loop (fun (i : Nat) => ⟨[(1, .ref 1 0), (3, .osl 19 0 l.length l.length), (4, iV i)], [(1, .box [.sl nl 3 (l.map It.pv)]), (19, .arr 1 false (lkV l i ++ List.replicate (l.length - i) nilS))]⟩) (fun (i : Nat) => i ≤ l.length) (fun (i : Nat) => l.length - i) (0) (by first | omega | (simp; done)) (Weak.kp (ht := by repeat' (first | exact rfl | (refine Side.mk (oslE ?_ ?_) <;> (simp only [ln]; first | done | omega)) | constructor)) (ho := by repeat' (first | exact rfl | exact arrE (by simp [lkV]) | constructor)) (huo := by repeat' (first | exact rfl | exact plainL_append (lkV_plain _ _) (plainL_rep _ _ rfl) | constructor))) ?_
 intro i hi
 refine Trip.seq (Trip.sr tblOk ?_)
 apply Trip.cond (.tmp rfl)
 ·intro h
  have h : i < l.length := by simp at h; omega
  have c1 := cLinks16 l[i]!.kind l[i]!.body
  have hall := lkN_all l l[i]!
  rw [← LK_get l h] at hall
  have hNl := linksOf_len l[i]!.kind l[i]!.body
  generalize linksOf l[i]!.kind l[i]!.body = N at *
  have hAl := lkV_len l hi
  have hsp := lk_split l h
  have hjn := lk_join l h
  have hpA := lkV_plain l i
  have hcA := lkV_one l i
  have hpB := plainL_rep (l.length - (i + 1)) nilS rfl
  have hcB := rep_one (l.length - (i + 1))
  have hBl : (List.replicate (l.length - (i + 1)) nilS).length = l.length - (i + 1) := List.length_replicate
  have hA0 : (lkV l i).length = 0 + ((i : Nat) : Int).toNat := by rw [hAl]; simp
  generalize lkV l i = A at *
  generalize hBq : List.replicate (l.length - (i + 1)) nilS = B at *
  refine Trip.skip (Trip.seq (Trip.block (Trip.sD tblOk mixed (by repeat' (first | exact rfl | (apply Rule.sem; intro hγ; with_reducible apply F_call0 (x := .func 19) (B := []) hγ (hspec := c1)) | exact idx_map _ _ _ (by show _ < _; first | omega | (simp only [List.length_map] at *; omega)) | ((with_reducible refine Side.mk ?_); first | exact .inl rfl | (simp only [ln]; first | done | omega)) | constructor)) ?_)))
  refine Trip.sr tblOk ?_
  refine Trip.block ?_
  apply Trip.loop (fun (k : Nat) => ⟨[(1, .ref 1 0), (3, .osl 19 0 l.length l.length), (4, iV i), (5, .sl N.isEmpty 1 (N.map fun x => sV x)), (7, iV k)], [(900, .arr 1 (lkN l N k).isEmpty ((lkN l N k).map fun j => iV (j : Nat))), (1, .box [.sl nl 3 (l.map It.pv)]), (19, .arr 1 false (A ++ .osl 900 0 (lkN l N k).length (lkN l N k).length :: B))]⟩) (fun (k : Nat) => k ≤ N.length) (fun (k : Nat) => N.length - k) (0)
  ·first | omega | (simp; done)
  ·refine Weak.trans (S2 := ⟨[(1, .ref 1 0), (3, .osl 19 0 l.length l.length), (4, iV i), (5, .sl N.isEmpty 1 (N.map fun x => sV x)), (7, iV 0)], [(1, .box [.sl nl 3 (l.map It.pv)]), (19, .arr 1 false (A ++ nilS :: B))]⟩) ?_ ?_
   ·exact Weak.kp (ho := by repeat' (first | exact rfl | exact arrE hsp | constructor)) (huo := by repeat' (first | exact rfl | exact plainL_append hpA (by simp only [plainL, hpB]; rfl) | constructor))
   ·refine Weak.adopt 900 1 rfl rfl (by repeat' (first | exact rfl | constructor)) ?_
    exact .box rfl (AdL.refl _ _) (.arrC rfl (adMid hcA hcB rfl rfl .nilS) (lenMid (one_len hcA) (one_len hcB) rfl) .nil)
  intro k hk
  refine Trip.seq (Trip.sr tblOk ?_)
  apply Trip.cond (.tmp rfl)
  ·intro h2
   have h2 : k < N.length := by simp at h2; omega
   have c2 := cPlace2 nl l N[k]! (by omega)
   have hsn := lkN_succ l N h2
   have hFl := lkN_len l N k
   generalize hF : lkN l N (k + 1) = F' at *
   generalize lkN l N k = F at *
   generalize place l N[k]! = pl at *
   generalize placed l N[k]! = pd at *
   refine Trip.skip ?_
   refine Trip.seqk ⟨[(1, .ref 1 0), (3, .osl 19 0 l.length l.length), (4, iV i), (5, .sl N.isEmpty 1 (N.map fun x => sV x)), (7, iV k)], [(900, .arr 1 F'.isEmpty (F'.map fun j => iV (j : Nat))), (1, .box [.sl nl 3 (l.map It.pv)]), (19, .arr 1 false (A ++ .osl 900 0 F'.length F'.length :: B))]⟩ ?_ ?_
   ·refine Trip.block (Trip.sD tblOk mixed (by repeat' (first | exact rfl | (apply Rule.sem; intro hγ; with_reducible apply F_call0 (x := .func 37) (B := []) hγ (hspec := c2)) | exact idx_map _ _ _ (by show _ < _; first | omega | (simp only [List.length_map] at *; omega)) | ((with_reducible refine Side.mk ?_); first | exact .inl rfl | (simp only [ln]; first | done | omega)) | constructor)) ?_)
    refine Trip.sr tblOk ?_
    apply Trip.cond (.tmp rfl)
    ·intro h3
     have h3 : pd = true := h3
     rw [if_pos h3] at hsn
     subst hsn
     refine Trip.R tblOk (by repeat' (first | exact rfl | exact mid_get _ _ _ hA0 | ((with_reducible refine Side.mk ?_); first | omega | (simp only [ln]; first | done | omega)) | constructor)) ?_
     exact Weak.kp (ho := by repeat' (first | exact rfl | (refine arrE ?_; refine (mid_set _ _ _ _ hA0).trans ?_; simp; done) | exact arrF (by simp) (by simp) | constructor)) (huo := by repeat' (first | exact rfl | (refine UsesO.arrU (usesMid hpA hpB hcA hcB rfl rfl) ?_) | exact plainL_map _ (fun _ => rfl) _ | constructor))
    ·intro h3
     have h3 : ¬ pd = true := by rw [show pd = false from h3]; simp
     rw [if_neg h3] at hsn
     subst hsn
     refine Trip.skip ?_
     exact Weak.kp (huo := by repeat' (first | exact rfl | (refine UsesO.arrU (usesMid hpA hpB hcA hcB rfl rfl) ?_) | exact plainL_map _ (fun _ => rfl) _ | constructor))
   refine Trip.R tblOk (by repeat' (first | exact rfl | ((with_reducible refine Side.mk ?_); omega) | constructor)) ?_
   exact ⟨k + 1, by first | omega | (dsimp only at *; omega), by first | omega | (dsimp only at *; omega), Weak.kp (ho := by repeat' (first | exact rfl | (rw [hF]; rfl) | constructor)) (huo := by repeat' (first | exact rfl | (refine UsesO.arrU (usesMid hpA hpB hcA hcB rfl rfl) ?_) | exact plainL_map _ (fun _ => rfl) _ | constructor))⟩
  intro h2
  have h2 : k = N.length := by simp at h2; omega
  subst h2
  refine Trip.exit ?_
  rw [hall]
  apply Trip.weak (S' := ⟨[(1, .ref 1 0), (3, .osl 19 0 l.length l.length), (4, iV i)], [(1, .box [.sl nl 3 (l.map It.pv)]), (19, .arr 1 false (lkV l (i + 1) ++ B))]⟩)
  ·refine Weak.turn [900] rfl rfl ?_ ?_
   ·repeat' (first | exact rfl | constructor)
   ·rw [hjn]
    exact .box rfl (.cons .sl .nil) (.arrC rfl (convMid hpA hpB hcA hcB rfl rfl (.bArr rfl rfl (List.length_map _).symm (plainL_map _ (fun _ => rfl) _))) (lenMid (one_len hcA) (one_len hcB) rfl) .nil)
  subst hBq
  refine Trip.R tblOk (by repeat' (first | exact rfl | ((with_reducible refine Side.mk ?_); omega) | constructor)) ?_
  exact ⟨i + 1, by first | omega | (dsimp only at *; omega), by first | omega | (dsimp only at *; omega), Weak.kp (huo := by repeat' (first | exact rfl | exact plainL_append (lkV_plain _ _) (plainL_rep _ _ rfl) | constructor))⟩
 intro h
 have h : i = l.length := by simp at h; omega
 subst h
 refine Trip.exit (Trip.sR tblOk (by repeat' (first | exact rfl | (apply Rule.sem; intro hγ; with_reducible apply F_makeSlice tblOk hγ) | ((with_reducible refine Side.mk ?_); (simp only [ln]; first | done | omega)) | constructor)) ?_)
 refine Trip.sr tblOk ?_
 refine Trip.seq (Trip.sr tblOk ?_)
 refine Trip.block ?_
 refine Trip.loop (fun (q : List Bool × Bool) => ⟨[(3, .osl 19 0 l.length l.length), (10, .osl 74 0 l.length l.length), (11, iV (cntF q.1 : Nat)), (12, bV q.2)], [(19, .arr 1 false ((LK l).map rowV)), (74, .arr 1 false (q.1.map fun b => bV b))]⟩) (fun (q : List Bool × Bool) => RingI l q.1 q.2) (fun (q : List Bool × Bool) => 2 * cntF q.1 + (if q.2 = true then 1 else 0)) ((List.replicate l.length false, true)) (by exact RingI.start l) (Weak.kp (ht := by repeat' (first | exact rfl | (refine vI ?_; simp [cntF]; done) | (refine Side.mk (oslE ?_ ?_) <;> (simp only [ln]; first | done | omega)) | constructor)) (ho := by repeat' (first | exact rfl | exact arrE (lk_end l) | exact arrE (by simp) | constructor)) (huo := by repeat' (first | exact plainL_map _ (fun _ => rfl) _ | constructor))) ?_
 rintro ⟨d, m⟩ hI
 dsimp only at *
 refine Trip.seq (Trip.sr tblOk ?_)
 apply Trip.cond (.tmp rfl)
 ·intro h
  have h : m = true := h
  subst h
  have hdl := hI.1
  have hnx := hI.next
  have hcl := cntF_le d
  refine Trip.skip (Trip.block (Trip.sr tblOk ?_))
  refine Trip.sr tblOk ?_
  refine Trip.block ?_
  refine Trip.loop (fun (q : Nat × List Bool × Bool) => ⟨[(3, .osl 19 0 l.length l.length), (10, .osl 74 0 l.length l.length), (11, iV (cntF q.2.1 : Nat)), (12, bV q.2.2), (13, iV q.1)], [(19, .arr 1 false ((LK l).map rowV)), (74, .arr 1 false (q.2.1.map fun b => bV b))]⟩) (fun (q : Nat × List Bool × Bool) => q.1 ≤ l.length ∧ q.2.1.length = l.length ∧ goR (LK l) (l.length - q.1) q.1 q.2.1 q.2.2 = goR (LK l) l.length 0 d false) (fun (q : Nat × List Bool × Bool) => l.length - q.1) ((0, d, false)) (by exact ⟨Nat.zero_le _, hdl, rfl⟩) (Weak.kp (huo := by repeat' (first | exact plainL_map _ (fun _ => rfl) _ | constructor))) ?_
  rintro ⟨i, d2, m2⟩ ⟨hi, hd2, hg⟩
  dsimp only at *
  have hc2 := cntF_le d2
  have hLl := LK_len l
  refine Trip.seq (Trip.sR tblOk (by repeat' (first | exact rfl | ((with_reducible refine Side.mk ?_); (simp only [ln]; first | done | omega)) | constructor)) ?_)
  apply Trip.cond (.tmp rfl)
  ·intro h2
   have h2 : i < l.length := by simp at h2; omega
   rw [goR_step (LK l) h2] at hg
   have hRl : ∀ j ∈ (LK l)[i]!, j < l.length := fun j hj => by rw [LK_get l h2] at hj; exact linkAt_lt hj
   have hE : endsP (LK l) d2 i = (!d2[i]! && (LK l)[i]!.all fun j => d2[j]!) := rfl
   have hcs : endsP (LK l) d2 i = true → cntF (d2.set i true) + 1 = cntF d2 := fun he => cntF_set (by omega) (by
    rw [hE, Bool.and_eq_true, Bool.not_eq_true'] at he; exact he.1)
   have hRL : (LK l)[i]!.length ≤ 1048577 := by
    rw [LK_get l h2, linkAt, List.length_map]
    exact Nat.le_trans (List.length_filter_le _ _) (linksOf_len _ _)
   have hz : 0 + ((i : Nat) : Int).toNat = i := by simp
   generalize endsP (LK l) d2 i = e at *
   refine Trip.skip (Trip.seq (Trip.block (Trip.sR tblOk (by repeat' (first | exact rfl | exact idx_map _ _ _ (by show _ < _; first | omega | (simp only [List.length_map] at *; omega)) | ((with_reducible refine Side.mk ?_); first | omega | (simp only [ln]; first | done | omega)) | constructor)) ?_)))
   refine Trip.seq (Trip.sr tblOk ?_)
   refine Trip.block ?_
   refine Trip.loop (fun (k : Nat) => ⟨[(3, .osl 19 0 l.length l.length), (10, .osl 74 0 l.length l.length), (11, iV (cntF d2 : Nat)), (12, bV m2), (13, iV i), (14, bV (!d2[i]! && ((LK l)[i]!.take k).all fun j => d2[j]!)), (15, iV k)], [(19, .arr 1 false ((LK l).map rowV)), (74, .arr 1 false (d2.map fun b => bV b))]⟩) (fun (k : Nat) => k ≤ (LK l)[i]!.length) (fun (k : Nat) => (LK l)[i]!.length - k) (0) (by first | omega | (simp; done)) (Weak.kp (ht := by repeat' (first | exact rfl | (rw [hz]; exact congrArg bV (Bool.and_true _).symm) | constructor)) (huo := by repeat' (first | exact plainL_map _ (fun _ => rfl) _ | constructor))) ?_
   intro k hk
   have hst := fun h => take_snoc (LK l)[i]! k h
   have hmem := fun h : k < (LK l)[i]!.length => hRl _ (bang_mem h)
   refine Trip.seq (Trip.sR tblOk (by repeat' (first | exact rfl | exact idx_map _ _ _ (by show _ < _; first | omega | (simp only [List.length_map] at *; omega)) | ((with_reducible refine Side.mk ?_); first | omega | exact fun _ h => h | (simp only [ln]; first | done | omega)) | constructor)) ?_)
   apply Trip.cond (.tmp rfl)
   ·intro h3
    have h3 : (decide ((k : Int) < ((((LK l)[i]!.map fun j => iV (j : Nat)).length : Nat) : Int)) && (!d2[i]! && ((LK l)[i]!.take k).all fun j => d2[j]!)) = true := by rw [hz] at h3; exact h3
    rw [List.length_map, Bool.and_eq_true, decide_eq_true_eq] at h3
    obtain ⟨h3, h4⟩ := h3
    have h3 : k < (LK l)[i]!.length := by omega
    have hst := hst h3
    have hmem := hmem h3
    refine Trip.skip (Trip.seq (Trip.block ?_))
    have h3z : k < (LK l)[0 + ((i : Nat) : Int).toNat]!.length := by rw [hz]; exact h3
    have hmz : 0 + (((LK l)[0 + ((i : Nat) : Int).toNat]![((k : Nat) : Int).toNat]! : Nat) : Int).toNat < d2.length := by rw [hz, Nat.zero_add, Int.toNat_natCast, hd2]; exact hmem
    have hfz : d2[0 + (((LK l)[0 + ((i : Nat) : Int).toNat]![((k : Nat) : Int).toNat]! : Nat) : Int).toNat]! = (!d2[i]! && ((LK l)[i]!.take (k + 1)).all fun j => d2[j]!) := by
     rw [hst, List.all_append, ← Bool.and_assoc, h4, Bool.true_and, hz, Nat.zero_add, Int.toNat_natCast, Int.toNat_natCast]; simp
    refine Trip.R tblOk (by repeat' (first | exact rfl | exact idx_map _ _ _ h3z | exact idx_map _ _ _ hmz | exact idx_map _ _ _ (by show _ < _; first | omega | (simp only [List.length_map] at *; omega)) | ((with_reducible refine Side.mk ?_); first | omega | (simp only [ln]; first | done | omega) | (simp only [ln] at *; first | done | omega)) | constructor)) ?_
    refine Trip.R tblOk (by repeat' (first | exact rfl | ((with_reducible refine Side.mk ?_); omega) | constructor)) ?_
    exact ⟨k + 1, by first | omega | (dsimp only at *; omega), by first | omega | (dsimp only at *; omega), Weak.kp (ht := by repeat' (first | exact rfl | exact congrArg bV hfz | constructor)) (huo := by repeat' (first | exact plainL_map _ (fun _ => rfl) _ | constructor))⟩
   intro h3
   have h3 : (decide ((k : Int) < ((((LK l)[i]!.map fun j => iV (j : Nat)).length : Nat) : Int)) && (!d2[i]! && ((LK l)[i]!.take k).all fun j => d2[j]!)) = false := by rw [hz] at h3; exact h3
   rw [List.length_map, Bool.and_eq_false_iff, decide_eq_false_iff_not] at h3
   have he : (!d2[i]! && ((LK l)[i]!.take k).all fun j => d2[j]!) = e := by
    rw [hE]
    rcases h3 with h3 | h3
    ·rw [List.take_of_length_le (by omega)]
    ·rw [h3]
     rw [Bool.and_eq_false_iff] at h3
     symm
     rw [Bool.and_eq_false_iff]
     rcases h3 with h3 | h3
     ·exact .inl h3
     ·right
      rw [← List.take_append_drop k (LK l)[i]!, List.all_append, h3, Bool.false_and]
   rw [he]
   refine Trip.exit (Trip.sr tblOk ?_)
   apply Trip.cond (.tmp rfl)
   ·intro h4
    have h4 : e = true := h4
    rw [if_pos h4] at hg
    have hcs := hcs h4
    refine Trip.sR tblOk (by repeat' (first | exact rfl | exact idx_map _ _ _ (by show _ < _; first | omega | (simp only [List.length_map] at *; omega)) | ((with_reducible refine Side.mk ?_); first | omega | (simp only [ln]; first | done | omega)) | constructor)) ?_
    refine Trip.sr tblOk ?_
    refine Trip.R tblOk (by repeat' (first | exact rfl | ((with_reducible refine Side.mk ?_); omega) | constructor)) ?_
    refine Trip.R tblOk (by repeat' (first | exact rfl | ((with_reducible refine Side.mk ?_); omega) | constructor)) ?_
    exact ⟨(i + 1, d2.set i true, true), by exact ⟨by omega, by rw [List.length_set]; exact hd2, hg⟩, by first | omega | (dsimp only at *; omega), Weak.kp (ht := by repeat' (first | exact rfl | (refine vI ?_; first | omega | (simp; done) | (simp; omega) | (simp only [List.length_map] at *; omega)) | constructor)) (ho := by repeat' (first | exact rfl | exact arrE (by simp [List.map_set]) | constructor)) (huo := by repeat' (first | exact plainL_map _ (fun _ => rfl) _ | constructor))⟩
   ·intro h4
    have h4 : ¬ e = true := by rw [show e = false from h4]; simp
    rw [if_neg h4] at hg
    refine Trip.skip (Trip.R tblOk (by repeat' (first | exact rfl | ((with_reducible refine Side.mk ?_); omega) | constructor)) ?_)
    exact ⟨(i + 1, d2, m2), by exact ⟨by omega, hd2, hg⟩, by first | omega | (dsimp only at *; omega), Weak.kp (huo := by repeat' (first | exact plainL_map _ (fun _ => rfl) _ | constructor))⟩
  intro h2
  have h2 : i = l.length := by simp at h2; omega
  subst h2
  rw [Nat.sub_self] at hg
  have hg : (d2, m2) = goR (LK l) l.length 0 d false := hg
  rw [← hg] at hnx
  have hn2 : 2 * cntF d2 + (if m2 = true then 1 else 0) < 2 * cntF d + 1 := hnx.2
  have hf : (if true = true then (1 : Nat) else 0) = 1 := rfl
  refine Trip.exit ?_
  exact ⟨(d2, m2), by exact hnx.1, by first | omega | (dsimp only at *; omega), Weak.kp (huo := by repeat' (first | exact plainL_map _ (fun _ => rfl) _ | constructor))⟩
 intro h
 have h : m = false := h
 subst h
 rw [hI.done]
 refine Trip.exit (Trip.sr tblOk ?_)
 refine Trip.ret (rt1 [] (hc := by repeat' (exact cvB (by simp only [List.length_map]))))
end Go.Proofs.Tryz
