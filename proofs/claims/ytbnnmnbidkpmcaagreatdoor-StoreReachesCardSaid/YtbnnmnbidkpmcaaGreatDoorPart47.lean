/- A part of the proof: Si, Sj. -/
import Derived.Test.YtbnnmnbidkpmcaaGreatDoorPart42
set_option linter.unusedVariables false
set_option linter.unusedSimpArgs false
namespace Go.Proofs.Tryz
open Go Go.Sym Go.Graft
set_option maxRecDepth 20000
theorem sortN_app (l m : List Str) : ∀ i, i ≤ l.length → sortN (l ++ m) i = sortN l i
 | 0, _ => rfl
 | i + 1, h => by
  have ih := sortN_app l m i (by omega)
  have e : (l ++ m)[i]! = l[i]! := by
   rw [getElem!_pos _ i (by rw [List.length_append]; omega), getElem!_pos _ i (by omega), List.getElem_append_left]
  rw [sortN, sortN, ih, e]
theorem sortS_snoc (l : List Str) (x : Str) : sortS (l ++ [x]) = insS (sortS l) x := by
 have e : (l ++ [x])[l.length]! = x := by
  rw [getElem!_pos _ l.length (by simp)]; simp
 rw [sortS, List.length_append, List.length_singleton, sortN, sortN_app l [x] _ (Nat.le_refl _), e]
 rfl
theorem cWalk (nl nc nf : Bool) (l : List It) (cs cuts fr0 : List Str) (hs : l.length ≤ 500) (hcl : cs.length ≤ 1000000000) (hcs : ∀ x, holdsP cs x = hasS cuts x) (hf : fr0.length ≤ 100000000) (H K : List Str) (hR : IsReach l cuts fr0 H K) :
  Ctr prog 57 [stPV nl l, .sl nc 1 (cs.map fun x => sV x), .sl nf 1 (fr0.map fun x => sV x)] [] (.tup [.sl H.isEmpty 1 (H.map fun x => sV x), .sl K.isEmpty 1 (K.map fun x => sV x)]) [] [] := by
 have hW := toCome_le l cuts [] l
 refine Ctr.enter tblOk func57 rfl (by decide) rfl (nt := 59) rfl rfl rfl rfl ?_
 refine Trip.sr tblOk ?_
 refine Trip.sr tblOk ?_
 refine Trip.rk ⟨[(1, .sl nc 1 (cs.map fun x => sV x)), (3, .ref 3 0), (8, nilS), (9, nilS), (10, .osl 15 0 fr0.length fr0.length)], [(3, .box [.sl nl 3 (l.map It.pv)]), (15, .arr 1 false (fr0.map fun x => sV x))]⟩ tblOk (by repeat' (first | exact rfl | exact cellsOk_map _ (fun _ => rfl) _ | ((with_reducible refine Side.mk ?_); (simp only [ln]; first | done | omega)) | constructor)) (Weak.kp (ht := by repeat' (first | exact rfl | (refine Side.mk (oslE ?_ ?_) <;> (simp only [ln]; first | done | omega)) | constructor)) (huo := by repeat' (first | exact rfl | exact plainL_map _ (fun _ => rfl) _ | constructor))) ?_
 apply Trip.weak (S' := ⟨[(1, .sl nc 1 (cs.map fun x => sV x)), (3, .ref 3 0), (8, .sl true 1 []), (9, .sl true 1 []), (10, .osl 15 0 fr0.length fr0.length)], [(3, .box [.sl nl 3 (l.map It.pv)]), (15, .arr 1 false (fr0.map fun x => sV x))]⟩)
 ·refine Weak.turn [] rfl rfl ?_ ?_
  ·repeat' (first | exact rfl | constructor)
  ·repeat' (first | exact rfl | exact plainL_map _ (fun _ => rfl) _ | constructor)
 refine Trip.seq (Trip.sr tblOk ?_)
 refine Trip.block ?_
 refine Trip.loop (fun (q : List Str × List Str × Nat) => ⟨[(1, .sl nc 1 (cs.map fun x => sV x)), (3, .ref 3 0), (8, .sl (sortS (q.1.filter (placed l))).isEmpty 1 ((sortS (q.1.filter (placed l))).map fun x => sV x)), (9, .sl (sortS (q.1.filter fun x => !placed l x)).isEmpty 1 ((sortS (q.1.filter fun x => !placed l x)).map fun x => sV x)), (10, .osl 15 0 q.2.1.length q.2.1.length), (11, iV q.2.2)], [(3, .box [.sl nl 3 (l.map It.pv)]), (15, .arr 1 false (q.2.1.map fun x => sV x))]⟩) (fun (q : List Str × List Str × Nat) => Onway l cuts fr0 q.1 (q.2.1.drop q.2.2) ∧ q.2.2 ≤ q.2.1.length ∧ q.1.length ≤ q.2.2 ∧ toCome l cuts q.1 l + q.2.1.length ≤ 700000000) (fun (q : List Str × List Str × Nat) => toCome l cuts q.1 l + (q.2.1.length - q.2.2)) (([], fr0, 0)) (by exact ⟨Onway.start l cuts fr0, Nat.zero_le _, Nat.le_refl _, by dsimp only; omega⟩) (Weak.kp (huo := by repeat' (first | exact rfl | exact plainL_map _ (fun _ => rfl) _ | constructor))) ?_
 rintro ⟨met, td, i⟩ ⟨hO, hi, hmi, hto⟩
 dsimp only at *
 have hTl := sortN_len (met.filter (placed l)) (met.filter (placed l)).length
 have hMl := sortN_len (met.filter fun x => !placed l x) (met.filter fun x => !placed l x).length
 have hTl2 : (met.filter (placed l)).length ≤ met.length := List.length_filter_le _ _
 have hMl2 : (met.filter fun x => !placed l x).length ≤ met.length := List.length_filter_le _ _
 have hAl : (sortS (met.filter (placed l))).length ≤ 700000000 := by rw [sortS]; omega
 have hBl : (sortS (met.filter fun x => !placed l x)).length ≤ 700000000 := by rw [sortS]; omega
 refine Trip.seq (Trip.sR tblOk (by repeat' (first | exact rfl | ((with_reducible refine Side.mk ?_); (simp only [ln]; first | done | omega)) | constructor)) ?_)
 apply Trip.cond (.tmp rfl)
 ·intro h
  have h : i < td.length := by simp at h; omega
  have hdr : td.drop i = td[i]! :: td.drop (i + 1) := by
   rw [getElem!_pos td _ h]; exact List.drop_eq_getElem_cons h
  have d1 := holds_sort (met.filter (placed l)) td[i]!
  have d2 := holds_sort (met.filter fun x => !placed l x) td[i]!
  have hin : hasS met td[i]! = (hasS (met.filter (placed l)) td[i]! || hasS (met.filter fun x => !placed l x) td[i]!) := by
   rw [Bool.eq_iff_iff, Bool.or_eq_true, hasS_iff, hasS_iff, hasS_iff, List.mem_filter, List.mem_filter]
   cases placed l td[i]! <;> simp
  rw [hdr] at hO
  have hnm : ∀ y, y ∈ td[i]! :: td.drop (i + 1) ↔ y = td[i]! ∨ y ∈ td.drop (i + 1) := fun y => List.mem_cons
  have hS : ∀ S x, S.length ≤ 1000000000 → holdsS S x = holdsP S x := fun S x hSl => by
   rw [holdsP, holdsS]
   have : decide (spot S x < S.length) = decide (((spot S x : Nat) : Int) < (S.length : Int)) := decide_eq_decide.2 (by omega)
   rw [this]; rfl
  generalize hX : td[i]! = X at *
  generalize hA : sortS (met.filter (placed l)) = A at *
  generalize hB : (sortS (met.filter fun x => !placed l x)) = B at *
  have c1 := cHolds A.isEmpty A X (by omega)
  have c2 := cHolds B.isEmpty B X (by omega)
  rw [hS A X (by omega), d1] at c1
  rw [hS B X (by omega), d2] at c2
  generalize hasS (met.filter (placed l)) X = p1 at *
  generalize hasS (met.filter fun x => !placed l x) X = p2 at *
  refine Trip.skip (Trip.seq (Trip.block ?_))
  refine Trip.rk ⟨[(1, .sl nc 1 (cs.map fun x => sV x)), (3, .ref 3 0), (8, .sl A.isEmpty 1 (A.map fun x => sV x)), (9, .sl B.isEmpty 1 (B.map fun x => sV x)), (10, .osl 15 0 td.length td.length), (11, iV i), (12, sV X)], [(3, .box [.sl nl 3 (l.map It.pv)]), (15, .arr 1 false (td.map fun x => sV x))]⟩ tblOk (by repeat' (first | exact rfl | exact idx_map _ _ _ (by show _ < _; first | omega | (simp only [List.length_map] at *; omega)) | ((with_reducible refine Side.mk ?_); first | omega | (simp only [ln]; first | done | omega)) | constructor)) (Weak.kp (ht := by repeat' (first | exact rfl | exact vT (by rw [← hX]; congr 1; omega) | constructor)) (huo := by repeat' (first | exact rfl | exact plainL_map _ (fun _ => rfl) _ | constructor))) ?_
  refine Trip.seq (Trip.sR tblOk (by repeat' (first | exact rfl | (apply Rule.sem; intro hγ; with_reducible apply F_call0 (dst := some 30) (x := .func 32) (B := []) hγ (hspec := c1)) | (apply Rule.sem; intro hγ; with_reducible apply F_call0 (dst := some 34) (x := .func 32) (B := []) hγ (hspec := c2)) | ((with_reducible refine Side.mk ?_); first | exact .inl rfl | exact fun h => h | exact fun _ h => congrArg Bool.not h) | constructor)) ?_)
  apply Trip.cond (.tmp rfl)
  ·intro h3
   have h3 : (p1 || p2) = true := h3
   have h3 : X ∈ met := (hasS_iff _ _).1 (hin.trans h3)
   refine Trip.exit (Trip.R tblOk (by repeat' (first | exact rfl | ((with_reducible refine Side.mk ?_); omega) | constructor)) ?_)
   exact ⟨(met, td, i + 1), by exact ⟨hO.old hnm h3, by dsimp only; omega, by dsimp only; omega, by dsimp only; omega⟩, by first | omega | (dsimp only at *; omega), Weak.kp (ht := by repeat' (first | exact rfl | (refine Side.mk ?_; dsimp only; simp only [hA, hB]; done) | constructor)) (huo := by repeat' (first | exact rfl | exact plainL_map _ (fun _ => rfl) _ | constructor))⟩
  intro h3
  have h3 : (p1 || p2) = false := h3
  have hXm : X ∉ met := fun k => by rw [(hasS_iff _ _).2 k, h3] at hin; simp at hin
  refine Trip.skip ?_
  have cG := cGet17 nl l X (by omega)
  have hm' : ∀ y, y ∈ met ++ [X] ↔ y = X ∨ y ∈ met := fun y => by rw [List.mem_append, List.mem_singleton]; exact Or.comm
  have hnd' : (met ++ [X]).Nodup := by
   rw [List.nodup_append]
   exact ⟨hO.nd, by simp, by intro a ha b hb; rw [List.mem_singleton] at hb; subst hb; intro e; subst e; exact hXm ha⟩
  have hXn : X ∈ X :: td.drop (i + 1) := List.mem_cons_self
  have hmono := toCome_mono l cuts (met := met) (met' := met ++ [X]) (fun y hy => (hm' y).2 (.inr hy)) l
  have hml : (met ++ [X]).length = met.length + 1 := by simp
  have hns : ∀ Z : List Str, (insS Z X).isEmpty = false := fun Z => by
   rw [List.isEmpty_eq_false_iff_exists_mem]
   rw [insS]
   split
   ·rename_i hz
    cases Z with
    | nil => simp [holdsP] at hz
    | cons z zs => exact ⟨z, by simp⟩
   ·exact ⟨X, by simp⟩
  cases hpl : placed l X with
  | false =>
   rw [hpl] at cG
   simp only [Bool.false_eq_true, if_false] at cG
   have hT2 : sortS ((met ++ [X]).filter (placed l)) = A := by rw [List.filter_append, ← hA]; simp [hpl]
   have hM2 : sortS ((met ++ [X]).filter fun x => !placed l x) = insS B X := by
    rw [List.filter_append, show ([X].filter fun x => !placed l x) = [X] by simp [hpl], sortS_snoc, hB]
   have hp2 : p2 = false := by revert h3; cases p1 <;> cases p2 <;> simp
   have c3 := cInsert17 B.isEmpty B X (by omega)
   rw [d2, hp2] at c3
   simp only [Bool.false_eq_true, if_false] at c3
   rw [← hns B] at c3
   generalize insS B X = B2 at *
   refine Trip.sR tblOk (by repeat' (first | exact rfl | (apply Rule.sem; intro hγ; with_reducible apply F_call0 (x := .func 21) (B := []) hγ (hspec := cG)) | ((with_reducible refine Side.mk ?_); exact .inl rfl) | constructor)) ?_
   refine Trip.seq (Trip.sr tblOk ?_)
   apply Trip.cond (.tmp rfl)
   ·intro h4
    clear h4
    refine Trip.sR tblOk (by repeat' (first | exact rfl | (apply Rule.sem; intro hγ; with_reducible apply F_call0 (x := .func 92) (B := []) hγ (hspec := c3)) | ((with_reducible refine Side.mk ?_); exact .inl rfl) | constructor)) ?_
    refine Trip.exit (Trip.R tblOk (by repeat' (first | exact rfl | ((with_reducible refine Side.mk ?_); omega) | constructor)) ?_)
    exact ⟨(met ++ [X], td, i + 1), by exact ⟨hO.new (fun y hy => (hnm y).1 hy) (fun y hy => .inl ((hnm y).2 (.inr hy))) hXn hXm hm' hnd' (fun e => by rw [hpl] at e; simp at e), by dsimp only; omega, by dsimp only; omega, by dsimp only; omega⟩, by first | omega | (dsimp only at *; omega), Weak.kp (ht := by repeat' (first | exact rfl | (refine Side.mk ?_; dsimp only; simp only [hT2, hM2]; done) | constructor)) (huo := by repeat' (first | exact rfl | exact plainL_map _ (fun _ => rfl) _ | constructor))⟩
   intro h4
   exact absurd h4 (by decide)
  | true =>
   rw [hpl] at cG
   simp only [if_true] at cG
   have c5 := cNames17 l[place l X]!.kind l[place l X]!.body (hasS cuts X)
   have hN : nmsOf l[place l X]!.kind l[place l X]!.body (hasS cuts X) = nmAt l cuts X := rfl
   rw [hN] at c5
   clear hN
   have c4 := cHolds nc cs X (by omega)
   rw [hS cs X hcl, hcs X] at c4
   have hNl := nmAt_len l cuts X
   have hcome := toCome_new l cuts hm' hXm l (placed_mem hpl)
   have hon := hO.new (x := X) (next' := td.drop (i + 1) ++ nmAt l cuts X) (met' := met ++ [X]) (fun y hy => ((hnm y).1 hy).imp id fun k => List.mem_append_left _ k) (fun y hy => (List.mem_append.1 hy).imp (fun k => (hnm y).2 (.inr k)) fun k => ⟨hpl, k⟩) hXn hXm hm' hnd' (fun _ y hy => List.mem_append_right _ hy)
   generalize nmAt l cuts X = NM at *
   generalize l[place l X]!.kind = kk at *
   generalize l[place l X]!.body = bb at *
   generalize (linksOf kk bb).isEmpty = le at *
   generalize hasS cuts X = cx at *
   have hT2 : sortS ((met ++ [X]).filter (placed l)) = insS A X := by
    rw [List.filter_append, show ([X].filter (placed l)) = [X] by simp [hpl], sortS_snoc, hA]
   have hM2 : sortS ((met ++ [X]).filter fun x => !placed l x) = B := by rw [List.filter_append, ← hB]; simp [hpl]
   have hp1 : p1 = false := by revert h3; cases p1 <;> cases p2 <;> simp
   have c3 := cInsert17 A.isEmpty A X (by omega)
   rw [d1, hp1] at c3
   simp only [Bool.false_eq_true, if_false] at c3
   rw [← hns A] at c3
   generalize insS A X = A2 at *
   have hdr2 : (td ++ NM).drop (i + 1) = td.drop (i + 1) ++ NM := by
    rw [List.drop_append_of_le_length (by omega)]
   have hPN : (td ++ NM).length = td.length + NM.length := List.length_append
   rw [← hdr2] at hon
   refine Trip.sR tblOk (by repeat' (first | exact rfl | (apply Rule.sem; intro hγ; with_reducible apply F_call0 (x := .func 21) (B := []) hγ (hspec := cG)) | ((with_reducible refine Side.mk ?_); exact .inl rfl) | constructor)) ?_
   refine Trip.seq (Trip.sr tblOk ?_)
   apply Trip.cond (.tmp rfl)
   ·intro h4
    exact absurd h4 (by decide)
   intro h4
   clear h4
   refine Trip.skip (Trip.sR tblOk (by repeat' (first | exact rfl | (apply Rule.sem; intro hγ; with_reducible apply F_call0 (x := .func 92) (B := []) hγ (hspec := c3)) | ((with_reducible refine Side.mk ?_); exact .inl rfl) | constructor)) ?_)
   refine Trip.D tblOk mixed (by repeat' (first | exact rfl | (apply Rule.sem; intro hγ; with_reducible apply F_call0 (x := .func 32) (B := []) hγ (hspec := c4)) | (apply Rule.sem; intro hγ; with_reducible apply F_call0 (x := .func 31) (B := []) hγ (hspec := c5)) | exact cellsOk_map _ (fun _ => rfl) _ | ((with_reducible refine Side.mk ?_); first | exact .inl rfl | (simp only [ln]; first | done | omega)) | constructor)) ?_
   refine Trip.R tblOk (by repeat' (first | exact rfl | ((with_reducible refine Side.mk ?_); omega) | constructor)) ?_
   exact ⟨(met ++ [X], td ++ NM, i + 1), by exact ⟨hon, by dsimp only; omega, by dsimp only; omega, by dsimp only; omega⟩, by first | omega | (dsimp only at *; omega), Weak.kp (ht := by repeat' (first | exact rfl | (refine Side.mk ?_; dsimp only; simp only [hT2, hM2]; done) | (refine Side.mk ?_; dsimp only; refine oslE ?_ ?_ <;> simp; done) | constructor)) (ho := by repeat' (first | exact rfl | (refine Side.mk ?_; dsimp only; exact arrF (by simp) (by simp)) | constructor)) (huo := by repeat' (first | exact rfl | exact plainL_map _ (fun _ => rfl) _ | constructor))⟩
 intro h
 have h : td.length ≤ i := by simpa using h
 rw [List.drop_of_length_le h] at hO
 refine Trip.exit ?_
 have hre := (hO.reach (sortS_asc _) (sortS_asc _) (fun x => sortS_mem _ x) (fun x => sortS_mem _ x)).uniq hR
 rw [hre.1, hre.2]
 refine Trip.sr tblOk ?_
 refine Trip.ret (rt2 [])
end Go.Proofs.Tryz
namespace Go.Proofs.Tryz
open Go Go.Sym Go.Graft
set_option maxRecDepth 20000
theorem cReach17 (nl nf : Bool) (l : List It) (fr0 : List Str) (hs : l.length ≤ 500) (hf : fr0.length ≤ 100000000) (H K : List Str) (hR : IsReach l [] fr0 H K) :
  Ctr prog 26 [stPV nl l, .sl nf 1 (fr0.map fun x => sV x)] [] (.tup [.sl (if K = [] then H else []).isEmpty 1 ((if K = [] then H else []).map fun x => sV x), iV (if K = [] then 0 else 171)]) [] [] := by
 have c := cWalk nl true nf l [] [] fr0 hs (by simp) (fun x => by rw [← holds_sort]; rfl) hf H K hR
 simp only [List.map_nil] at c
 refine Ctr.enter tblOk func26 rfl (by decide) rfl (nt := 18) rfl rfl rfl rfl ?_
 refine Trip.sr tblOk ?_
 refine Trip.sR tblOk (by repeat' (first | exact rfl | (apply Rule.sem; intro hγ; with_reducible apply F_call0 (x := .func 57) (B := []) hγ (hspec := c)) | ((with_reducible refine Side.mk ?_); exact .inl rfl) | constructor)) ?_
 refine Trip.seq (Trip.sr tblOk ?_)
 apply Trip.cond (.tmp rfl)
 ·intro h
  have h : ¬ K = [] := by rintro rfl; simp at h
  rw [if_neg h, if_neg h]
  refine Trip.sr tblOk ?_
  refine Trip.ret (rt2 [])
 intro h
 have h : K = [] := by simpa using h
 rw [if_pos h, if_pos h]
 refine Trip.skip (Trip.sr tblOk ?_)
 refine Trip.ret (rt2 [])
theorem cMissing17 (nl nf : Bool) (l : List It) (fr0 : List Str) (hs : l.length ≤ 500) (hf : fr0.length ≤ 100000000) (H K : List Str) (hR : IsReach l [] fr0 H K) :
  Ctr prog 28 [stPV nl l, .sl nf 1 (fr0.map fun x => sV x)] [] (.sl K.isEmpty 1 (K.map fun x => sV x)) [] [] := by
 have c := cWalk nl true nf l [] [] fr0 hs (by simp) (fun x => by rw [← holds_sort]; rfl) hf H K hR
 simp only [List.map_nil] at c
 refine Ctr.enter tblOk func28 rfl (by decide) rfl (nt := 14) rfl rfl rfl rfl ?_
 refine Trip.sr tblOk ?_
 refine Trip.sR tblOk (by repeat' (first | exact rfl | (apply Rule.sem; intro hγ; with_reducible apply F_call0 (x := .func 57) (B := []) hγ (hspec := c)) | ((with_reducible refine Side.mk ?_); exact .inl rfl) | constructor)) ?_
 refine Trip.sr tblOk ?_
 refine Trip.ret (rt1 [])
theorem cIs17 (nl : Bool) (l : List It) (x : Str) (k : Int) (hs : l.length ≤ 1000000000) : Ctr prog 102 [stPV nl l, sV x, iV k] [] (bV (fitsP l x k)) [] [] := by
 have c := cGet17 nl l x hs
 have h : fitsP l x k = (decide ((if placed l x = true then (0 : Int) else 5) = 0) && decide ((if placed l x = true then l[place l x]!.kind else 0) = k)) := by
  rw [fitsP]
  cases placed l x <;> simp
 rw [h]
 generalize (if placed l x = true then (0 : Int) else 5) = ee at *
 generalize (if placed l x = true then l[place l x]!.kind else 0) = kk at *
 generalize (if placed l x = true then l[place l x]!.body else []) = bb at *
 refine Ctr.enter tblOk func102 rfl (by decide) rfl (nt := 23) rfl rfl rfl rfl ?_
 refine Trip.sr tblOk ?_
 refine Trip.sR tblOk (by repeat' (first | exact rfl | (apply Rule.sem; intro hγ; with_reducible apply F_call0 (x := .func 21) (B := []) hγ (hspec := c)) | ((with_reducible refine Side.mk ?_); exact .inl rfl) | constructor)) ?_
 refine Trip.sR tblOk (by repeat' (first | exact rfl | ((with_reducible refine Side.mk ?_); first | exact fun h => h | exact fun _ h => h) | constructor)) ?_
 refine Trip.ret (rt1 [] (hc := by repeat' (exact cvB (by simp only [List.length_map]))))
theorem cLinked17 (nl : Bool) (l : List It) (k : Int) (b : Str) (cut : Bool) (hs : l.length ≤ 1000000000) (hb : b.length ≤ 100000000) : Ctr prog 62 [stPV nl l, objPV k b, bV cut] [] (bV (linkP l k b cut)) [] [] := by
 rw [linkP, com_same, tg_same]
 refine Ctr.enter tblOk func62 rfl (by decide) rfl (nt := 92) rfl rfl rfl rfl ?_
 refine Trip.sr tblOk ?_
 refine Trip.seq (Trip.sr tblOk ?_)
 refine Trip.block (Trip.sr tblOk ?_)
 apply Trip.cond (.tmp rfl)
 ·intro h
  have h : k = 2 := by simpa using h
  rw [if_pos h]
  have c1 := cParse15 b (by omega)
  have hEl := treeOf_len b
  generalize (treeOf b).1 = e at *
  generalize hE : (treeOf b).2 = E at *
  generalize hq : (fun x : En => !fitsP l x.id (if x.mode = 4 then 2 else 1)) = q
  refine Trip.sR tblOk (by repeat' (first | exact rfl | (apply Rule.sem; intro hγ; with_reducible apply F_call0 (x := .func 50) (B := []) hγ (hspec := c1)) | ((with_reducible refine Side.mk ?_); exact .inl rfl) | constructor)) ?_
  refine Trip.sr tblOk ?_
  refine Trip.block ?_
  refine Trip.loop (fun (i : Nat) => ⟨[(3, .ref 3 0), (7, .sl E.isEmpty 3 (E.map En.pv)), (9, iV i)], [(3, .box [.sl nl 3 (l.map It.pv)])]⟩) (fun (i : Nat) => i ≤ E.length ∧ ∀ j, j < i → q E[j]! = false) (fun (i : Nat) => E.length - i) (0) (by exact ⟨Nat.zero_le _, fun j hj => absurd hj (by omega)⟩) Weak.kp ?_
  rintro i ⟨hi, hj⟩
  refine Trip.seq (Trip.sr tblOk ?_)
  apply Trip.cond (.tmp rfl)
  ·intro h2
   have h2 : i < E.length := by simp at h2; omega
   have hqx : q E[i]! = !fitsP l E[i]!.id (if E[i]!.mode = 4 then 2 else 1) := by rw [← hq]
   have c2 := cIs17 nl l E[i]!.id (if E[i]!.mode = 4 then 2 else 1) hs
   generalize hkk : (if E[i]!.mode = 4 then (2 : Int) else 1) = kk at *
   generalize fitsP l E[i]!.id kk = r at *
   refine Trip.skip (Trip.seq (Trip.block (Trip.sr tblOk ?_)))
   refine Trip.seqk ⟨[(3, .ref 3 0), (7, .sl E.isEmpty 3 (E.map En.pv)), (9, iV i), (10, iV kk)], [(3, .box [.sl nl 3 (l.map It.pv)])]⟩ ?_ ?_
   ·refine Trip.sR tblOk (by repeat' (first | exact rfl | exact idx_map _ _ _ (by show _ < _; first | omega | (simp only [List.length_map] at *; omega)) | ((with_reducible refine Side.mk ?_); (simp only [ln]; first | done | omega)) | constructor)) ?_
    apply Trip.cond (.tmp rfl)
    ·intro h3
     have h3 : E[i]!.mode = 4 := by simpa using h3
     rw [if_pos h3] at hkk
     subst hkk
     refine Trip.r tblOk ?_
     exact Weak.kp
    ·intro h3
     have h3 : ¬ E[i]!.mode = 4 := by simpa using h3
     rw [if_neg h3] at hkk
     subst hkk
     refine Trip.skip ?_
     exact Weak.kp
   refine Trip.sD tblOk mixed (by repeat' (first | exact rfl | (apply Rule.sem; intro hγ; with_reducible apply F_call0 (x := .func 102) (B := []) hγ (hspec := c2)) | exact idx_map _ _ _ (by show _ < _; first | omega | (simp only [List.length_map] at *; omega)) | ((with_reducible refine Side.mk ?_); first | exact .inl rfl | (simp only [ln]; first | done | omega)) | constructor)) ?_
   apply Trip.cond (.tmp rfl)
   ·intro h3
    have h3 : q E[i]! = true := by rw [hqx]; exact h3
    have : (E.any q) = true := List.any_eq_true.2 ⟨_, bang_mem h2, h3⟩
    rw [this]
    refine Trip.sr tblOk ?_
    refine Trip.ret (rt1 [])
   intro h3
   have h3 : q E[i]! = false := by rw [hqx]; exact h3
   refine Trip.skip (Trip.R tblOk (by repeat' (first | exact rfl | ((with_reducible refine Side.mk ?_); omega) | constructor)) ?_)
   exact ⟨i + 1, by exact ⟨by omega, fun j h4 => (Nat.lt_succ_iff_lt_or_eq.1 h4).elim (hj j) (fun e => e ▸ h3)⟩, by first | omega | (dsimp only at *; omega), Weak.kp⟩
  intro h2
  have h2 : E.length ≤ i := by simpa using h2
  have hno : (E.any q) = false := by
   rw [List.any_eq_false]
   intro x hx
   obtain ⟨j, hj1, hj2⟩ := List.mem_iff_getElem.1 hx
   have := hj j (by omega)
   rw [getElem!_pos E j hj1, hj2] at this
   rw [this]; simp
  rw [hno]
  refine Trip.exit (Trip.sr tblOk ?_)
  refine Trip.ret (rt1 [])
 intro h
 have h : ¬ k = 2 := by simpa using h
 rw [if_neg h]
 refine Trip.sr tblOk ?_
 apply Trip.cond (.tmp rfl)
 ·intro h
  have h : k = 3 := by simpa using h
  rw [if_pos h]
  have c1 := cParse16 b hb
  have hPl := comR_len b
  generalize (comR b).1 = e at *
  generalize (comR b).2 = C at *
  have c2 := cIs17 nl l C.tree 2 hs
  generalize C.pars.isEmpty = ni at *
  obtain ⟨tree, pars, ⟨an, am, at', az⟩, ⟨cn, cm, ct, cz⟩, text⟩ := C
  dsimp only at *
  generalize fitsP l tree 2 = r2 at *
  refine Trip.sR tblOk (by repeat' (first | exact rfl | (apply Rule.sem; intro hγ; with_reducible apply F_call0 (x := .func 51) (B := []) hγ (hspec := c1)) | ((with_reducible refine Side.mk ?_); exact .inl rfl) | constructor)) ?_
  refine Trip.seq (Trip.sr tblOk ?_)
  refine Trip.block ?_
  refine Trip.loop (fun (i : Nat) => ⟨[(2, bV cut), (3, .ref 3 0), (11, .ref 11 0), (13, iV i)], [(3, .box [.sl nl 3 (l.map It.pv)]), (11, .box (Com.pv ni ⟨tree, pars, ⟨an, am, at', az⟩, ⟨cn, cm, ct, cz⟩, text⟩).cells)]⟩) (fun (i : Nat) => i ≤ pars.length ∧ (cut = false → ∀ j, j < i → fitsP l pars[j]! 3 = true) ∧ (cut = true → i = 0)) (fun (i : Nat) => pars.length - i) (0) (by exact ⟨Nat.zero_le _, fun _ j hj => absurd hj (by omega), fun _ => rfl⟩) Weak.kp ?_
  rintro i ⟨hi, hj, hc0⟩
  have hPl : pars.length ≤ b.length := hPl
  refine Trip.seq (Trip.sR tblOk (by repeat' (first | exact rfl | ((with_reducible refine Side.mk ?_); first | exact fun h => h | exact fun _ h => h) | constructor)) ?_)
  apply Trip.cond (.tmp rfl)
  ·intro h2
   have h2 : (decide ((i : Int) < (((pars.map fun x => sV x).length : Nat) : Int)) && !cut) = true := h2
   rw [List.length_map, Bool.and_eq_true, decide_eq_true_eq, Bool.not_eq_true'] at h2
   obtain ⟨h2, hcut⟩ := h2
   have h2 : i < pars.length := by omega
   have c3 := cIs17 nl l pars[i]! 3 hs
   generalize hr : fitsP l pars[i]! 3 = r at *
   refine Trip.skip (Trip.seq (Trip.block (Trip.sD tblOk mixed (by repeat' (first | exact rfl | (apply Rule.sem; intro hγ; with_reducible apply F_call0 (x := .func 102) (B := []) hγ (hspec := c3)) | exact idx_map _ _ _ (by show _ < _; first | omega | (simp only [List.length_map] at *; omega)) | ((with_reducible refine Side.mk ?_); first | exact .inl rfl | (simp only [ln]; first | done | omega)) | constructor)) ?_)))
   apply Trip.cond (.tmp rfl)
   ·intro h3
    have h3 : r = false := by simpa using h3
    have hany : (pars.any fun p => !fitsP l p 3) = true := List.any_eq_true.2 ⟨_, bang_mem h2, by rw [hr, h3]; rfl⟩
    have e0 : (r2 && (cut || !(pars.any fun p => !fitsP l p 3))) = false := by rw [hany, hcut]; simp
    rw [e0]
    refine Trip.sr tblOk ?_
    refine Trip.ret (rt1 [] (hc := by repeat' (exact cvB (by simp only [List.length_map]))))
   intro h3
   have h3 : r = true := by simpa using h3
   refine Trip.skip (Trip.R tblOk (by repeat' (first | exact rfl | ((with_reducible refine Side.mk ?_); omega) | constructor)) ?_)
   exact ⟨i + 1, by exact ⟨by omega, fun _ j h4 => (Nat.lt_succ_iff_lt_or_eq.1 h4).elim (hj hcut j) (fun e => e ▸ hr.trans h3), fun k => by rw [hcut] at k; simp at k⟩, by first | omega | (dsimp only at *; omega), Weak.kp⟩
  intro h2
  have h2 : (decide ((i : Int) < (((pars.map fun x => sV x).length : Nat) : Int)) && !cut) = false := h2
  rw [List.length_map, Bool.and_eq_false_iff, decide_eq_false_iff_not, Bool.not_eq_false'] at h2
  have hall : (cut || !(pars.any fun p => !fitsP l p 3)) = true := by
   cases hcut : cut with
   | true => rfl
   | false =>
    have h2 : pars.length ≤ i := by
     rcases h2 with h2 | h2
     ·omega
     ·rw [hcut] at h2; simp at h2
    rw [Bool.false_or, Bool.not_eq_true', List.any_eq_false]
    intro x hx
    obtain ⟨j, hj1, hj2⟩ := List.mem_iff_getElem.1 hx
    have := hj hcut j (by omega)
    rw [getElem!_pos pars j hj1, hj2] at this
    rw [this]; simp
  rw [hall, Bool.and_true]
  refine Trip.exit (Trip.sR tblOk (by repeat' (first | exact rfl | (apply Rule.sem; intro hγ; with_reducible apply F_call0 (x := .func 102) (B := []) hγ (hspec := c2)) | ((with_reducible refine Side.mk ?_); exact .inl rfl) | constructor)) ?_)
  refine Trip.ret (rt1 [] (hc := by repeat' (exact cvB (by simp only [List.length_map]))))
 intro h
 have h : ¬ k = 3 := by simpa using h
 rw [if_neg h]
 refine Trip.sr tblOk ?_
 apply Trip.cond (.tmp rfl)
 ·intro h
  have h : k = 4 := by simpa using h
  rw [if_pos h]
  have c1 := cParseTg16 b hb
  generalize (tgR b).1 = e at *
  generalize (tgR b).2 = C at *
  have c2 := cIs17 nl l C.obj C.kind hs
  generalize fitsP l C.obj C.kind = r2 at *
  obtain ⟨obj, kind, name, ⟨an, am, at', az⟩, text⟩ := C
  dsimp only at *
  refine Trip.sR tblOk (by repeat' (first | exact rfl | (apply Rule.sem; intro hγ; with_reducible apply F_call0 (x := .func 52) (B := []) hγ (hspec := c1)) | ((with_reducible refine Side.mk ?_); exact .inl rfl) | constructor)) ?_
  refine Trip.sR tblOk (by repeat' (first | exact rfl | (apply Rule.sem; intro hγ; with_reducible apply F_call0 (x := .func 102) (B := []) hγ (hspec := c2)) | ((with_reducible refine Side.mk ?_); exact .inl rfl) | constructor)) ?_
  refine Trip.ret (rt1 [] (hc := by repeat' (exact cvB (by simp only [List.length_map]))))
 intro h
 have h : ¬ k = 4 := by simpa using h
 rw [if_neg h]
 refine Trip.skip (Trip.sr tblOk ?_)
 refine Trip.ret (rt1 [] (hc := by repeat' (exact cvB (by simp only [List.length_map]))))
theorem cWhole17S (nl nc nf : Bool) (l : List It) (cuts fr0 : List Str) (hs : l.length ≤ 500) (hc : cuts.length ≤ 100000000) (hf : fr0.length ≤ 100000000) (hb : ∀ it ∈ l, it.body.length ≤ 100000000) (H K : List Str) (hR : IsReach l cuts fr0 H K) (hH : H.length ≤ 1000000000000) :
  Ctr prog 30 [stPV nl l, .sl nc 1 (cuts.map fun x => sV x), .sl nf 1 (fr0.map fun x => sV x)] [] (bV (wholeP l cuts H K)) [] [] := by
 have hcl : (sortS cuts).length ≤ 100000000 := by have := sortN_len cuts cuts.length; rw [sortS]; omega
 have hcs := holds_sort cuts
 have c1 := cSorted17 nc cuts hc
 generalize decide (cuts.length = 0) = nd at *
 generalize sortS cuts = cs at *
 have c2 := cWalk nl nd nf l cs cuts fr0 hs (by omega) hcs hf H K hR
 have hHS : ∀ x, holdsS cs x = hasS cuts x := fun x => by
  rw [← hcs x, holdsP, holdsS]
  have : decide (((spot cs x : Nat) : Int) < (cs.length : Int)) = decide (spot cs x < cs.length) := decide_eq_decide.2 (by omega)
  rw [this]; rfl
 rw [wholeP]
 generalize hq : (fun x : Str => !linkP l l[place l x]!.kind l[place l x]!.body (hasS cuts x)) = q
 refine Ctr.enter tblOk func30 rfl (by decide) rfl (nt := 50) rfl rfl rfl rfl ?_
 refine Trip.sr tblOk ?_
 refine Trip.sR tblOk (by repeat' (first | exact rfl | (apply Rule.sem; intro hγ; with_reducible apply F_call0 (x := .func 55) (B := []) hγ (hspec := c1)) | ((with_reducible refine Side.mk ?_); exact .inl rfl) | constructor)) ?_
 refine Trip.sR tblOk (by repeat' (first | exact rfl | (apply Rule.sem; intro hγ; with_reducible apply F_call0 (x := .func 57) (B := []) hγ (hspec := c2)) | ((with_reducible refine Side.mk ?_); exact .inl rfl) | constructor)) ?_
 refine Trip.seq (Trip.sr tblOk ?_)
 apply Trip.cond (.tmp rfl)
 ·intro h
  have h : ¬ (K.length : Int) = 0 := by simp at h; omega
  rw [decide_eq_false h, Bool.false_and]
  refine Trip.sr tblOk ?_
  refine Trip.ret (rt1 [] (hc := by repeat' (exact cvB (by simp only [List.length_map]))))
 intro h
 have h : (K.length : Int) = 0 := by simp at h; simp [h]
 rw [decide_eq_true h, Bool.true_and]
 refine Trip.skip (Trip.seq (Trip.sr tblOk ?_))
 refine Trip.block ?_
 refine Trip.loop (fun (i : Nat) => ⟨[(3, .ref 3 0), (7, .sl nd 1 (cs.map fun x => sV x)), (8, .sl H.isEmpty 1 (H.map fun x => sV x)), (10, iV i)], [(3, .box [.sl nl 3 (l.map It.pv)])]⟩) (fun (i : Nat) => i ≤ H.length ∧ ∀ j, j < i → q H[j]! = false) (fun (i : Nat) => H.length - i) (0) (by exact ⟨Nat.zero_le _, fun j hj => absurd hj (by omega)⟩) Weak.kp ?_
 rintro i ⟨hi, hj⟩
 refine Trip.seq (Trip.sr tblOk ?_)
 apply Trip.cond (.tmp rfl)
 ·intro h2
  have h2 : i < H.length := by simp at h2; omega
  have hqx : q H[i]! = !linkP l l[place l H[i]!]!.kind l[place l H[i]!]!.body (hasS cuts H[i]!) := by rw [← hq]
  have hpl := ((hR.m1 H[i]!).1 (bang_mem h2)).2
  have c3 := cGet17 nl l H[i]! (by omega)
  rw [hpl] at c3
  simp only [if_true] at c3
  have c4 := cHolds nd cs H[i]! (by omega)
  rw [hHS] at c4
  have c5 := cLinked17 nl l l[place l H[i]!]!.kind l[place l H[i]!]!.body (hasS cuts H[i]!) (by omega) (hb _ (bang_mem (placed_lt hpl).1))
  generalize linkP l l[place l H[i]!]!.kind l[place l H[i]!]!.body (hasS cuts H[i]!) = r at *
  generalize l[place l H[i]!]!.kind = kk at *
  generalize l[place l H[i]!]!.body = bb at *
  generalize hasS cuts H[i]! = cx at *
  refine Trip.skip (Trip.seq (Trip.block (Trip.sD tblOk mixed (by repeat' (first | exact rfl | (apply Rule.sem; intro hγ; with_reducible apply F_call0 (x := .func 21) (B := []) hγ (hspec := c3)) | exact idx_map _ _ _ (by show _ < _; first | omega | (simp only [List.length_map] at *; omega)) | ((with_reducible refine Side.mk ?_); first | exact .inl rfl | (simp only [ln]; first | done | omega)) | constructor)) ?_)))
  refine Trip.sD tblOk mixed (by repeat' (first | exact rfl | (apply Rule.sem; intro hγ; with_reducible apply F_call0 (x := .func 32) (B := []) hγ (hspec := c4)) | (apply Rule.sem; intro hγ; with_reducible apply F_call0 (x := .func 62) (B := []) hγ (hspec := c5)) | exact idx_map _ _ _ (by show _ < _; first | omega | (simp only [List.length_map] at *; omega)) | ((with_reducible refine Side.mk ?_); first | exact .inl rfl | (simp only [ln]; first | done | omega)) | constructor)) ?_
  apply Trip.cond (.tmp rfl)
  ·intro h3
   have h3 : q H[i]! = true := by rw [hqx]; exact h3
   have : (H.any q) = true := List.any_eq_true.2 ⟨_, bang_mem h2, h3⟩
   rw [this]
   refine Trip.sr tblOk ?_
   refine Trip.ret (rt1 [])
  intro h3
  have h3 : q H[i]! = false := by rw [hqx]; exact h3
  refine Trip.skip (Trip.R tblOk (by repeat' (first | exact rfl | ((with_reducible refine Side.mk ?_); omega) | constructor)) ?_)
  exact ⟨i + 1, by exact ⟨by omega, fun j h4 => (Nat.lt_succ_iff_lt_or_eq.1 h4).elim (hj j) (fun e => e ▸ h3)⟩, by first | omega | (dsimp only at *; omega), Weak.kp⟩
 intro h2
 have h2 : H.length ≤ i := by simpa using h2
 have hno : (H.any q) = false := by
  rw [List.any_eq_false]
  intro x hx
  obtain ⟨j, hj1, hj2⟩ := List.mem_iff_getElem.1 hx
  have := hj j (by omega)
  rw [getElem!_pos H j hj1, hj2] at this
  rw [this]; simp
 rw [hno]
 refine Trip.exit (Trip.sr tblOk ?_)
 refine Trip.ret (rt1 [])
end Go.Proofs.Tryz
