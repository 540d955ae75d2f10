/- A part of the proof: Sa, Sb. -/
import Derived.Test.YtbnnmnbidkpmcaaGreatDoorPart39
import Derived.Test.YtbnnmnbidkpmcaaGreatDoorPart34
set_option linter.unusedVariables false
set_option linter.unusedSimpArgs false
namespace Go.Proofs.Tryz
open Go Go.Sym Go.Graft
set_option maxRecDepth 20000
theorem cNames17 (k : Int) (b : Str) (cut : Bool) : Ctr prog 31 [objPV k b, bV cut] [] (.sl (linksOf k b).isEmpty 1 ((nmsOf k b cut).map fun x => sV x)) [] [] := by
 have c1 := cLinks16 k b
 have hn : nmsOf k b cut = if (cut && decide (k = 3)) = true then (linksOf k b).take 1 else linksOf k b := rfl
 generalize nmsOf k b cut = N at *
 generalize linksOf k b = l at *
 refine Ctr.enter tblOk func31 rfl (by decide) rfl (nt := 26) rfl rfl rfl rfl ?_
 refine Trip.sr tblOk ?_
 refine Trip.sR tblOk (by repeat' (first | exact rfl | (apply Rule.sem; intro hγ; with_reducible apply F_call0 (x := .func 63) (B := []) hγ (hspec := c1)) | ((with_reducible refine Side.mk ?_); exact .inl rfl) | constructor)) ?_
 refine Trip.seq (Trip.sR tblOk (by repeat' (first | exact rfl | ((with_reducible refine Side.mk ?_); first | exact fun h => h | exact fun _ h => h) | constructor)) ?_)
 apply Trip.cond (.tmp rfl)
 ·intro h
  have h : (cut && decide (k = 3) && decide (1 < (((l.map fun x => sV x).length : Nat) : Int))) = true := h
  rw [List.length_map] at h
  simp only [Bool.and_eq_true, decide_eq_true_eq] at h
  rw [if_pos (by simp [h.1])] at hn
  subst hn
  rw [List.map_take]
  refine Trip.sR tblOk (by repeat' (first | exact rfl | ((with_reducible refine bokR ?_); (simp only [ln]; first | done | omega)) | constructor)) ?_
  refine Trip.ret (rt1 [])
 intro h
 have h : (cut && decide (k = 3) && decide (1 < (((l.map fun x => sV x).length : Nat) : Int))) = false := h
 rw [List.length_map] at h
 have hN : N = l := by
  rw [hn]
  split
  ·rename_i h2
   rw [h2] at h
   simp at h
   rw [List.take_of_length_le (by omega)]
  ·rfl
 subst hN
 refine Trip.skip (Trip.sr tblOk ?_)
 refine Trip.ret (rt1 [])
theorem cLinksN (k : Int) (b : Str) (cut : Bool) : Ctr prog 94 [objPV k b, bV cut] [] (.sl (linksOf k b).isEmpty 1 ((nmsOf k b cut).map fun x => sV x)) [] [] := by
 have c1 := cLinks k b
 have hn : nmsOf k b cut = if (cut && decide (k = 3)) = true then (linksOf k b).take 1 else linksOf k b := rfl
 generalize nmsOf k b cut = N at *
 generalize linksOf k b = l at *
 refine Ctr.enter tblOk func94 rfl (by decide) rfl (nt := 26) rfl rfl rfl rfl ?_
 refine Trip.sr tblOk ?_
 refine Trip.sR tblOk (by repeat' (first | exact rfl | (apply Rule.sem; intro hγ; with_reducible apply F_call0 (x := .func 136) (B := []) hγ (hspec := c1)) | ((with_reducible refine Side.mk ?_); exact .inl rfl) | constructor)) ?_
 refine Trip.seqk ⟨[(5, .sl l.isEmpty 1 (N.map fun x => sV x))], []⟩ ?_ ?_
 ·refine Trip.sR tblOk (by repeat' (first | exact rfl | ((with_reducible refine Side.mk ?_); first | exact fun h => h | exact fun _ h => h) | constructor)) ?_
  apply Trip.cond (.tmp rfl)
  ·intro h
   have h : (cut && decide (k = 3) && decide (0 < (((l.map fun x => sV x).length : Nat) : Int))) = true := h
   rw [List.length_map] at h
   simp only [Bool.and_eq_true, decide_eq_true_eq] at h
   rw [if_pos (by simp [h.1])] at hn
   subst hn
   rw [List.map_take]
   refine Trip.R tblOk (by repeat' (first | exact rfl | ((with_reducible refine bokR ?_); (simp only [ln]; first | done | omega)) | constructor)) ?_
   exact Weak.kp
  ·intro h
   have h : (cut && decide (k = 3) && decide (0 < (((l.map fun x => sV x).length : Nat) : Int))) = false := h
   rw [List.length_map] at h
   have hN : N = l := by
    rw [hn]
    split
    ·rename_i h2
     rw [h2] at h
     simp at h
     rw [List.take_of_length_le (by simp [h])]
    ·rfl
   subst hN
   refine Trip.skip ?_
   exact Weak.kp
 refine Trip.sr tblOk ?_
 refine Trip.ret (rt1 [])
theorem cInsert17 (nl : Bool) (l : List Str) (x : Str) (hs : l.length ≤ 1000000000) : Ctr prog 92 [.sl nl 1 (l.map fun x => sV x), sV x] [] (.sl (if holdsP l x = true then nl else false) 1 ((insS l x).map fun x => sV x)) [] [] := by
 have c1 := cSpot nl l x (by omega)
 have hle : spot l x ≤ l.length := by rw [spot, halve_eq]; exact (hvAt_le _ _ 0 l.length rfl (Nat.zero_le _)).2
 have hh : holdsP l x = (decide (((spot l x : Nat) : Int) < (l.length : Int)) && decide (l[((spot l x : Nat) : Int).toNat]! = x)) := by
  rw [holdsP]
  have : decide (spot l x < l.length) = decide (((spot l x : Nat) : Int) < (l.length : Int)) := decide_eq_decide.2 (by omega)
  rw [this]; rfl
 have hi : insS l x = if holdsP l x = true then l else l.take (spot l x) ++ [x] ++ l.drop (spot l x) := rfl
 generalize insS l x = r at *
 generalize holdsP l x = hd at *
 generalize spot l x = p at *
 refine Ctr.enter tblOk func92 rfl (by decide) rfl (nt := 37) rfl rfl rfl rfl ?_
 refine Trip.sr tblOk ?_
 refine Trip.sR tblOk (by repeat' (first | exact rfl | (apply Rule.sem; intro hγ; with_reducible apply F_call0 (x := .func 64) (B := []) hγ (hspec := c1)) | ((with_reducible refine Side.mk ?_); exact .inl rfl) | constructor)) ?_
 refine Trip.seq (Trip.sR tblOk (by repeat' (first | exact rfl | (apply Rule.under tblOk; intro hγ; with_reducible apply Rule.indexAddr) | exact idx_map _ _ _ (by have h2 := hγ; simp only [gpick, cond_true, cond_false, decide_eq_true_eq, Bool.and_eq_true, Bool.or_eq_true, Bool.not_eq_true', Bool.not_eq_false', Bool.or_eq_false_iff, decide_eq_false_iff_not, List.length_map] at h2; show _ < _; omega) | ((with_reducible refine Side.mk ?_); first | exact fun h => h | exact fun _ h => h | exact fun _ => hγ | (have h2 := hγ; simp only [gpick, cond_true, cond_false, decide_eq_true_eq, Bool.and_eq_true, Bool.or_eq_true, Bool.not_eq_true', Bool.not_eq_false', Bool.or_eq_false_iff, decide_eq_false_iff_not, List.length_map] at h2; (try simp only [List.length_map]); omega)) | constructor)) ?_)
 apply Trip.cond (.tmp rfl)
 ·intro h
  have h : hd = true := by rw [hh]; simpa using h
  rw [if_pos h] at hi ⊢
  subst hi
  refine Trip.sr tblOk ?_
  refine Trip.ret (rt1 [])
 intro h
 have h : hd = false := by rw [hh]; simpa using h
 rw [if_neg (by rw [h]; simp)] at hi ⊢
 subst hi
 refine Trip.skip ?_
 refine Trip.rk ⟨[(0, .sl nl 1 (l.map fun x => sV x)), (1, sV x), (5, iV p), (6, .osl 23 0 (l.take p).length (l.take p).length)], [(23, .arr 1 false ((l.take p).map fun x => sV x))]⟩ tblOk (by repeat' (first | exact rfl | (show cellsOkL (cellsOf (((l.map fun x => sV x).take p).drop 0)) = true; rw [List.drop_zero, ← List.map_take]; exact cellsOk_map _ (fun _ => rfl) _) | ((first | with_reducible refine bokR ?_ | with_reducible refine Side.mk ?_); (simp only [ln]; first | done | omega)) | constructor)) (Weak.kp (ht := by repeat' (first | exact rfl | (refine Side.mk (oslE ?_ ?_) <;> simp [loOf, hiOf, List.take_of_length_le]) | constructor)) (ho := by repeat' (first | exact rfl | exact arrF (by simp) (by simp [loOf, hiOf, List.take_of_length_le]) | constructor)) (huo := by repeat' (first | exact plainL_map _ (fun _ => rfl) _ | constructor))) ?_
 refine Trip.rk ⟨[(0, .sl nl 1 (l.map fun x => sV x)), (5, iV p), (6, .osl 23 0 (l.take p ++ [x]).length (l.take p ++ [x]).length)], [(23, .arr 1 false ((l.take p ++ [x]).map fun x => sV x))]⟩ tblOk (by repeat' (first | exact rfl | ((with_reducible refine Side.mk ?_); (simp only [ln]; first | done | omega)) | constructor)) (Weak.kp (ht := by repeat' (first | exact rfl | (refine Side.mk (oslE ?_ ?_) <;> simp [loOf, hiOf, List.take_of_length_le]) | constructor)) (ho := by repeat' (first | exact rfl | exact arrF (by simp) (by simp [loOf, hiOf, List.take_of_length_le]) | constructor)) (huo := by repeat' (first | exact plainL_map _ (fun _ => rfl) _ | constructor))) ?_
 refine Trip.rk ⟨[(4, .osl 23 0 (l.take p ++ [x] ++ l.drop p).length (l.take p ++ [x] ++ l.drop p).length)], [(23, .arr 1 false ((l.take p ++ [x] ++ l.drop p).map fun x => sV x))]⟩ tblOk (by repeat' (first | exact rfl | (show cellsOkL (cellsOf (((l.map fun x => sV x).take (l.map fun x => sV x).length).drop p)) = true; rw [List.take_length, ← List.map_drop]; exact cellsOk_map _ (fun _ => rfl) _) | ((first | with_reducible refine bokL ?_ | with_reducible refine Side.mk ?_); (simp only [ln]; first | done | omega)) | constructor)) (Weak.kp (ht := by repeat' (first | exact rfl | (refine Side.mk (oslE ?_ ?_) <;> simp [loOf, hiOf, List.take_of_length_le]) | constructor)) (ho := by repeat' (first | exact rfl | exact arrF (by simp) (by simp [loOf, hiOf, List.take_of_length_le]) | constructor)) (huo := by repeat' (first | exact plainL_map _ (fun _ => rfl) _ | constructor))) ?_
 refine Trip.ret (rt1 [23] (hc := by repeat' (first | exact rfl | exact plainL_map _ (fun _ => rfl) _ | (refine Side.mk ?_; simp only [ln]; first | done | omega) | constructor)))
theorem cSorted17 (nl : Bool) (l : List Str) (hs : l.length ≤ 100000000) : Ctr prog 55 [.sl nl 1 (l.map fun x => sV x)] [] (.sl (decide (l.length = 0)) 1 ((sortS l).map fun x => sV x)) [] [] := by
 refine Ctr.enter tblOk func55 rfl (by decide) rfl (nt := 18) rfl rfl rfl rfl ?_
 refine Trip.sr tblOk ?_
 refine Trip.sr tblOk ?_
 refine Trip.seq (Trip.sr tblOk ?_)
 refine Trip.block ?_
 apply Trip.loop (fun (i : Nat) => ⟨[(0, .sl nl 1 (l.map fun x => sV x)), (3, .sl (decide (i = 0)) 1 ((sortN l i).map fun x => sV x)), (4, iV i)], []⟩) (fun (i : Nat) => i ≤ l.length) (fun (i : Nat) => l.length - i) (0)
 ·first | omega | (simp; done)
 ·refine Weak.trans (S2 := ⟨[(0, .sl nl 1 (l.map fun x => sV x)), (3, nilS), (4, iV 0)], []⟩) ?_ (Weak.turn [] rfl rfl (.cons rfl .sl (.cons rfl .nilS (.cons rfl .v .nil))) .nil)
  exact Weak.kp
 intro i hi
 refine Trip.seq (Trip.sr tblOk ?_)
 apply Trip.cond (.tmp rfl)
 ·intro h
  have h : i < l.length := by simp at h; omega
  have hl := sortN_len l i
  have c1 := cInsert17 (decide (i = 0)) (sortN l i) l[i]! (by omega)
  have hst : sortN l (i + 1) = insS (sortN l i) l[i]! := rfl
  have hnl : (if holdsP (sortN l i) l[i]! = true then decide (i = 0) else false) = decide (i + 1 = 0) := by
   have e2 : decide (i + 1 = 0) = false := decide_eq_false (by omega)
   rw [e2]
   split
   ·rename_i hh
    cases i with
    | zero => simp [sortN, holdsP] at hh
    | succ i => exact decide_eq_false (by omega)
   ·rfl
  rw [hnl, ← hst] at c1
  generalize hs2 : sortN l (i + 1) = s2 at *
  generalize sortN l i = s1 at *
  refine Trip.skip (Trip.seq (Trip.block (Trip.R tblOk (by repeat' (first | exact rfl | (apply Rule.sem; intro hγ; with_reducible apply F_call0 (x := .func 92) (B := []) hγ (hspec := c1)) | exact idx_map _ _ _ (by show _ < _; first | omega | (simp only [List.length_map] at *; omega)) | ((with_reducible refine Side.mk ?_); first | exact .inl rfl | (simp only [ln]; first | done | omega)) | constructor)) ?_)))
  refine Trip.R tblOk (by repeat' (first | exact rfl | ((with_reducible refine Side.mk ?_); omega) | constructor)) ?_
  exact ⟨i + 1, by first | omega | (dsimp only at *; omega), by first | omega | (dsimp only at *; omega), Weak.kp (ht := by repeat' (first | exact rfl | (rw [hs2]; rfl) | constructor))⟩
 intro h
 have h : i = l.length := by simp at h; omega
 subst h
 refine Trip.exit ?_
 rw [sortS]
 refine Trip.sr tblOk ?_
 refine Trip.ret (rt1 [])
theorem cValid (nl : Bool) (l : List It) (hs : l.length ≤ 1000000000) : Ctr prog 9 [stPV nl l] [] (bV (rightSt l)) [] [] := by
 refine Ctr.enter tblOk func9 rfl (by decide) rfl (nt := 46) rfl rfl rfl rfl ?_
 refine Trip.sr tblOk ?_
 refine Trip.seq (Trip.sr tblOk ?_)
 apply Trip.cond (.tmp rfl)
 ·intro h
  have h : (65536 : Int) < l.length := by simpa using h
  rw [right_big h]
  refine Trip.sr tblOk ?_
  refine Trip.ret (rt1 [] (hc := by repeat' (exact cvB (by simp only [List.length_map]))))
 intro h
 have h0 : (l.length : Int) ≤ 65536 := by simp at h; omega
 refine Trip.skip (Trip.seq (Trip.sr tblOk ?_))
 refine Trip.block ?_
 refine Trip.loop (fun (i : Nat) => ⟨[(1, .ref 1 0), (10, .sl nl 3 (l.map It.pv)), (11, iV l.length), (12, iV i)], [(1, .box [.sl nl 3 (l.map It.pv)])]⟩) (fun (i : Nat) => i ≤ l.length ∧ ∀ j, j < i → itemBad l j = false) (fun (i : Nat) => l.length - i) (0) (by exact ⟨Nat.zero_le _, fun j hj => absurd hj (by omega)⟩) (Weak.kp (ht := by repeat' (first | exact rfl | (refine vI ?_; first | omega | (simp; done) | (simp; omega) | (simp only [List.length_map] at *; omega)) | constructor))) ?_
 intro i hi
 obtain ⟨hi, hj⟩ := hi
 refine Trip.sr tblOk ?_
 refine Trip.seq ?_
 apply Trip.cond (.tmp rfl)
 ·intro h
  have h : i < l.length := by simp at h; omega
  have e1 : ((i : Int) - 1).toNat = i - 1 := by omega
  have hb : itemBad l i = ((decide (0 < (i : Int)) && !Op.bytesLess l[((i : Int) - 1).toNat]!.id l[i]!.id) || !decide (wholeE l[i]!.kind l[i]!.body = 0) || !decide (objId l[i]!.kind l[i]!.body = l[i]!.id)) := by rw [e1]; rfl
  have hno := right_no h
  have c1 := cOfIt l[i]!
  have c2 := cWhole l[i]!.kind l[i]!.body
  have c3 := cId l[i]!.kind l[i]!.body
  generalize wholeE l[i]!.kind l[i]!.body = we at *
  generalize objId l[i]!.kind l[i]!.body = oi at *
  refine Trip.skip (Trip.seq (Trip.block (Trip.sR tblOk (by repeat' (first | exact rfl | exact idx_map _ _ _ (by show _ < _; first | omega | (simp only [List.length_map] at *; omega)) | ((with_reducible refine Side.mk ?_); (simp only [ln]; first | done | omega)) | constructor)) ?_)))
  refine Trip.sD tblOk mixed (by repeat' (first | exact rfl | (apply Rule.under tblOk; intro hγ; with_reducible apply Rule.indexAddr) | exact idx_map _ _ _ (by have h2 := hγ; simp only [gpick, cond_true, cond_false, decide_eq_true_eq, Bool.and_eq_true, Bool.or_eq_true, Bool.not_eq_true', Bool.not_eq_false', Bool.or_eq_false_iff, decide_eq_false_iff_not, List.length_map] at h2; show _ < _; omega) | (apply Rule.sem; intro hγ; with_reducible apply F_call0 (x := .func 40) (B := []) hγ (hspec := c1)) | (apply Rule.sem; intro hγ; with_reducible apply F_call0 (x := .func 39) (B := []) hγ (hspec := c2)) | (apply Rule.sem; intro hγ; with_reducible apply F_call0 (x := .func 41) (B := []) hγ (hspec := c3)) | ((with_reducible refine Side.mk ?_); first | omega | exact .inl rfl | exact fun h => h | exact fun _ h => h | exact fun _ h => congrArg Bool.not h | exact fun _ => hγ | (have h2 := hγ; simp only [gpick, cond_true, cond_false, decide_eq_true_eq, Bool.and_eq_true, Bool.or_eq_true, Bool.not_eq_true', Bool.not_eq_false', Bool.or_eq_false_iff, decide_eq_false_iff_not, List.length_map] at h2; (try simp only [List.length_map]); omega)) | constructor)) ?_
  apply Trip.cond (.tmp rfl)
  ·intro h2
   have h2 : itemBad l i = true := by rw [hb]; exact h2
   rw [hno h2]
   refine Trip.sr tblOk ?_
   refine Trip.ret (rt1 [] (hc := by repeat' (exact cvB (by simp only [List.length_map]))))
  intro h2
  have h2 : itemBad l i = false := by rw [hb]; exact h2
  refine Trip.skip (Trip.R tblOk (by repeat' (first | exact rfl | ((with_reducible refine Side.mk ?_); omega) | constructor)) ?_)
  exact ⟨i + 1, by exact ⟨by omega, fun j h3 => (Nat.lt_succ_iff_lt_or_eq.1 h3).elim (hj j) (fun e => e ▸ h2)⟩, by first | omega | (dsimp only at *; omega), Weak.kp⟩
 intro h
 have h : i = l.length := by simp at h; omega
 subst h
 rw [right_yes h0 hj]
 refine Trip.exit (Trip.sr tblOk ?_)
 refine Trip.ret (rt1 [] (hc := by repeat' (exact cvB (by simp only [List.length_map]))))
theorem cRight17 (nl : Bool) (l : List It) (hs : l.length ≤ 1000000000) : Ctr prog 10 [stPV nl l] [] (bV (rightSt l)) [] [] := by
 refine Ctr.enter tblOk func10 rfl (by decide) rfl (nt := 53) rfl rfl rfl rfl ?_
 refine Trip.sr tblOk ?_
 refine Trip.seq (Trip.sr tblOk ?_)
 apply Trip.cond (.tmp rfl)
 ·intro h
  have h : (65536 : Int) < l.length := by simpa using h
  rw [right_big h]
  refine Trip.sr tblOk ?_
  refine Trip.ret (rt1 [] (hc := by repeat' (exact cvB (by simp only [List.length_map]))))
 intro h
 have h0 : (l.length : Int) ≤ 65536 := by simp at h; omega
 refine Trip.skip (Trip.seq (Trip.sr tblOk ?_))
 refine Trip.block ?_
 refine Trip.loop (fun (i : Nat) => ⟨[(1, .ref 1 0), (3, iV i)], [(1, .box [.sl nl 3 (l.map It.pv)])]⟩) (fun (i : Nat) => i ≤ l.length ∧ ∀ j, j < i → itemBad l j = false) (fun (i : Nat) => l.length - i) (0) (by exact ⟨Nat.zero_le _, fun j hj => absurd hj (by omega)⟩) Weak.kp ?_
 intro i hi
 obtain ⟨hi, hj⟩ := hi
 refine Trip.seq (Trip.sr tblOk ?_)
 apply Trip.cond (.tmp rfl)
 ·intro h
  have h : i < l.length := by simp at h; omega
  have e1 : ((i : Int) - 1).toNat = i - 1 := by omega
  have hb : itemBad l i = ((decide (0 < (i : Int)) && !Op.bytesLess l[((i : Int) - 1).toNat]!.id l[i]!.id) || !decide (wholeE l[i]!.kind l[i]!.body = 0) || !decide (objId l[i]!.kind l[i]!.body = l[i]!.id)) := by rw [e1]; rfl
  have hno := right_no h
  have c2 := cWhole16 l[i]!.kind l[i]!.body
  have c3 := cId2 l[i]!.kind l[i]!.body
  generalize wholeE l[i]!.kind l[i]!.body = we at *
  generalize objId l[i]!.kind l[i]!.body = oi at *
  refine Trip.skip (Trip.seq (Trip.block (Trip.sR tblOk (by repeat' (first | exact rfl | exact idx_map _ _ _ (by show _ < _; first | omega | (simp only [List.length_map] at *; omega)) | ((with_reducible refine Side.mk ?_); (simp only [ln]; first | done | omega)) | constructor)) ?_)))
  refine Trip.sr tblOk ?_
  refine Trip.sD tblOk mixed (by repeat' (first | exact rfl | (apply Rule.under tblOk; intro hγ; with_reducible apply Rule.indexAddr) | exact idx_map _ _ _ (by have h2 := hγ; simp only [gpick, cond_true, cond_false, decide_eq_true_eq, Bool.and_eq_true, Bool.or_eq_true, Bool.not_eq_true', Bool.not_eq_false', Bool.or_eq_false_iff, decide_eq_false_iff_not, List.length_map] at h2; show _ < _; omega) | (apply Rule.sem; intro hγ; with_reducible apply F_call0 (x := .func 17) (B := []) hγ (hspec := c2)) | (apply Rule.sem; intro hγ; with_reducible apply F_call0 (x := .func 16) (B := []) hγ (hspec := c3)) | ((with_reducible refine Side.mk ?_); first | omega | exact .inl rfl | exact fun h => h | exact fun _ h => h | exact fun _ h => congrArg Bool.not h | exact fun _ => hγ | (have h2 := hγ; simp only [gpick, cond_true, cond_false, decide_eq_true_eq, Bool.and_eq_true, Bool.or_eq_true, Bool.not_eq_true', Bool.not_eq_false', Bool.or_eq_false_iff, decide_eq_false_iff_not, List.length_map] at h2; (try simp only [List.length_map]); omega)) | constructor)) ?_
  apply Trip.cond (.tmp rfl)
  ·intro h2
   have h2 : itemBad l i = true := by rw [hb]; exact h2
   rw [hno h2]
   refine Trip.sr tblOk ?_
   refine Trip.ret (rt1 [] (hc := by repeat' (exact cvB (by simp only [List.length_map]))))
  intro h2
  have h2 : itemBad l i = false := by rw [hb]; exact h2
  refine Trip.skip (Trip.R tblOk (by repeat' (first | exact rfl | ((with_reducible refine Side.mk ?_); omega) | constructor)) ?_)
  exact ⟨i + 1, by exact ⟨by omega, fun j h3 => (Nat.lt_succ_iff_lt_or_eq.1 h3).elim (hj j) (fun e => e ▸ h2)⟩, by first | omega | (dsimp only at *; omega), Weak.kp⟩
 intro h
 have h : i = l.length := by simp at h; omega
 subst h
 rw [right_yes h0 hj]
 refine Trip.exit (Trip.sr tblOk ?_)
 refine Trip.ret (rt1 [] (hc := by repeat' (exact cvB (by simp only [List.length_map]))))
end Go.Proofs.Tryz
namespace Go.Proofs.Tryz
open Go Go.Sym Go.Graft
set_option maxRecDepth 20000
theorem cKept (nl : Bool) (l : List It) (f : Nat) (caps : List PV) (hp : plainL caps = true) (q : Str → Bool) (hs : l.length ≤ 1000000000) (hq : ∀ x, Ctr prog f (sV x :: caps) [] (bV (q x)) [] []) : Ctr prog 53 [stPV nl l, .clo (.func f) [] caps] [] (stPV (l.filter fun x => q x.id).isEmpty (l.filter fun x => q x.id)) [] [] := by
 generalize hQ : (fun x : It => q x.id) = Q
 refine Ctr.enter tblOk func53 rfl (by decide) rfl (nt := 26) rfl rfl rfl rfl ?_
 refine Trip.sr tblOk ?_
 refine Trip.sr tblOk ?_
 refine Trip.seq (Trip.sr tblOk ?_)
 refine Trip.block ?_
 apply Trip.loop (fun (i : Nat) => ⟨[(1, .clo (.func f) [] caps), (4, .ref 4 0), (5, .osl 900 0 (filtN Q l i).length (filtN Q l i).length), (9, .sl nl 3 (l.map It.pv)), (10, iV l.length), (11, iV i)], [(900, .arr 3 (filtN Q l i).isEmpty ((filtN Q l i).map It.pv)), (4, .box [nilS])]⟩) (fun (i : Nat) => i ≤ l.length) (fun (i : Nat) => l.length - i) (0)
 ·first | omega | (simp; done)
 ·refine Weak.trans (S2 := ⟨[(1, .clo (.func f) [] caps), (4, .ref 4 0), (5, nilS), (9, .sl nl 3 (l.map It.pv)), (10, iV l.length), (11, iV 0)], [(4, .box [nilS])]⟩) ?_ ?_
  ·exact Weak.kp (ht := by repeat' (first | exact rfl | (refine vI ?_; first | omega | (simp; done) | (simp; omega) | (simp only [List.length_map] at *; omega)) | constructor)) (hu := by (show (usesOnlyL _ _ && _) = true; rw [usesOnlyL_plain (by assumption)]; rfl))
  ·exact Weak.adopt 900 3 rfl rfl (by repeat' (first | exact rfl | constructor)) (by repeat' (first | exact rfl | constructor))
 intro i hi
 have hfs := filtN_succ Q l i
 have hfl := filtN_le Q l i
 refine Trip.sr tblOk ?_
 refine Trip.seq ?_
 apply Trip.cond (.tmp rfl)
 ·intro h
  have h : i < l.length := by simp at h; omega
  have hfs := hfs h
  have c := hq l[i]!.id
  have hqi : Q l[i]! = q l[i]!.id := by rw [← hQ]
  generalize q l[i]!.id = pl at *
  generalize hF : filtN Q l (i + 1) = F' at *
  generalize filtN Q l i = F at *
  refine Trip.skip ?_
  refine Trip.seqk ⟨[(1, .clo (.func f) [] caps), (4, .ref 4 0), (5, .osl 900 0 F'.length F'.length), (9, .sl nl 3 (l.map It.pv)), (10, iV l.length), (11, iV i)], [(900, .arr 3 F'.isEmpty (F'.map It.pv)), (4, .box [nilS])]⟩ ?_ ?_
  ·refine Trip.block (Trip.sR tblOk (by repeat' (first | exact rfl | exact idx_map _ _ _ (by show _ < _; first | omega | (simp only [List.length_map] at *; omega)) | ((with_reducible refine Side.mk ?_); (simp only [ln]; first | done | omega)) | constructor)) ?_)
   refine Trip.sR tblOk (by repeat' (first | exact rfl | (apply Rule.sem; intro hγ; with_reducible apply F_call0 (x := .tmp 15) (B := []) hγ (hspec := c)) | exact convL_plain (by assumption) | ((with_reducible refine Side.mk ?_); exact .inl rfl) | constructor)) ?_
   apply Trip.cond (.tmp rfl)
   ·intro h2
    have h2 : Q l[i]! = true := by rw [hqi]; exact h2
    rw [if_pos h2] at hfs
    subst hfs
    refine Trip.R tblOk (by repeat' (first | exact rfl | ((with_reducible refine Side.mk ?_); (simp only [ln]; first | done | omega)) | constructor)) ?_
    exact Weak.kp (ht := by repeat' (first | exact rfl | (refine Side.mk (oslE ?_ ?_) <;> (simp only [ln]; first | done | omega)) | constructor)) (ho := by repeat' (first | exact rfl | exact arrF (by simp) (by simp) | constructor)) (hu := by (show (usesOnlyL _ _ && _) = true; rw [usesOnlyL_plain (by assumption)]; rfl)) (huo := by repeat' (first | exact rfl | exact plainL_map _ (fun _ => rfl) _ | constructor))
   intro h2
   have h2 : ¬ Q l[i]! = true := by rw [hqi, h2]; simp
   rw [if_neg h2] at hfs
   subst hfs
   refine Trip.skip ?_
   exact Weak.kp (hu := by (show (usesOnlyL _ _ && _) = true; rw [usesOnlyL_plain (by assumption)]; rfl)) (huo := by repeat' (first | exact rfl | exact plainL_map _ (fun _ => rfl) _ | constructor))
  refine Trip.R tblOk (by repeat' (first | exact rfl | ((with_reducible refine Side.mk ?_); omega) | constructor)) ?_
  exact ⟨i + 1, by first | omega | (dsimp only at *; omega), by first | omega | (dsimp only at *; omega), Weak.kp (ht := by repeat' (first | exact rfl | (rw [hF]; rfl) | constructor)) (ho := by repeat' (first | exact rfl | (rw [hF]; rfl) | constructor)) (hu := by (show (usesOnlyL _ _ && _) = true; rw [usesOnlyL_plain (by assumption)]; rfl)) (huo := by repeat' (first | exact rfl | exact plainL_map _ (fun _ => rfl) _ | constructor))⟩
 intro h
 have h : i = l.length := by simp at h; omega
 subst h
 rw [filtN_all]
 generalize l.filter Q = F at *
 refine Trip.exit (Trip.sr tblOk ?_)
 refine Trip.ret (rt1 [900] (hc := by repeat' (first | exact rfl | exact plainL_map _ (fun _ => rfl) _ | (refine Side.mk ?_; simp only [ln]; first | done | omega) | constructor)))
theorem cLessFn (nb : Bool) (b : List It) (hb : b.length ≤ 1000000000) (x : Str) : Ctr prog 65 [sV x, .rp [.sl nb 3 (b.map It.pv)]] [] (bV (!placed b x)) [] [] := by
 have c := cHas nb b x hb
 generalize placed b x = p at *
 refine Ctr.enter tblOk func65 rfl (by decide) rfl (nt := 8) rfl rfl rfl rfl ?_
 refine Trip.sr tblOk ?_
 refine Trip.sR tblOk (by repeat' (first | exact rfl | (apply Rule.sem; intro hγ; with_reducible apply F_call0 (x := .func 22) (B := []) hγ (hspec := c)) | ((with_reducible refine Side.mk ?_); exact .inl rfl) | constructor)) ?_
 refine Trip.ret (rt1 [] (hc := by repeat' (exact cvB (by simp only [List.length_map]))))
theorem cLessP (na nb : Bool) (a b : List It) (ha : a.length ≤ 1000000000) (hb : b.length ≤ 1000000000) : Ctr prog 35 [stPV na a, stPV nb b] [] (stPV (a.filter fun x => !placed b x.id).isEmpty (a.filter fun x => !placed b x.id)) [] [] := by
 have c := cKept na a 65 [.rp [.sl nb 3 (b.map It.pv)]] rfl (fun x => !placed b x) ha (cLessFn nb b hb)
 generalize (a.filter fun x => !placed b x.id) = F at *
 refine Ctr.enter tblOk func35 rfl (by decide) rfl (nt := 8) rfl rfl rfl rfl ?_
 refine Trip.sr tblOk ?_
 apply Trip.weak (S' := ⟨[(2, .ref 2 0), (3, .rp [.sl nb 3 (b.map It.pv)]), (4, .ref 4 0)], [(2, .box [.sl na 3 (a.map It.pv)]), (4, .box [nilS])]⟩)
 ·refine Weak.trans (S2 := ⟨[(2, .ref 2 0), (3, .ref 3 0), (4, .ref 4 0)], [(2, .box [.sl na 3 (a.map It.pv)]), (3, .box [.sl nb 3 (b.map It.pv)]), (4, .box [nilS])]⟩) ?_ ?_
  ·exact Weak.kp
  ·refine Weak.turn [3] rfl rfl ?_ ?_
   ·repeat' (first | exact rfl | constructor)
   ·repeat' (first | exact rfl | constructor)
 refine Trip.sR tblOk (by repeat' (first | exact rfl | (apply Rule.sem; intro hγ; with_reducible apply F_call0 (x := .func 53) (B := []) hγ (hspec := c)) | ((with_reducible refine Side.mk ?_); exact .inl rfl) | constructor)) ?_
 refine Trip.ret (rt1 [])
theorem cOnlyFn (ks : List Str) (bs : List Bool) (hl : ks.length = bs.length) (x : Str) : Ctr prog 54 [sV x, .rp [.mp false (ks.map strK) (bs.map fun b => bV b)]] [] (bV (mval ks bs false x)) [] [] := by
 refine Ctr.enter tblOk func54 rfl (by decide) rfl (nt := 7) rfl rfl rfl rfl ?_
 refine Trip.sr tblOk ?_
 refine Trip.sR tblOk (by repeat' (first | exact rfl | (apply Rule.sem; intro hγ; with_reducible apply F_lookup (K := strK) (f := bV) (z := false) (zv := .bool false) tblOk hγ (hz := zBool) (hzf := fun _ _ _ => .v _ _)) | exact KeyLaw.str tblOk rfl rfl | ((with_reducible refine Side.mk ?_); omega) | constructor)) ?_
 refine Trip.ret (rt1 [] (hc := by repeat' (exact cvB (by simp only [List.length_map]))))
theorem cOnlyP (nl ni : Bool) (l : List It) (ids : List Str) (hs : l.length ≤ 1000000000) (hi : ids.length ≤ 1000000000) : Ctr prog 23 [stPV nl l, .sl ni 1 (ids.map fun x => sV x)] [] (stPV (l.filter fun x => hasS ids x.id).isEmpty (l.filter fun x => hasS ids x.id)) [] [] := by
 have hlen := seenN_len ids
 have hend := fun x => seenN_val ids x ids.length (Nat.le_refl _)
 rw [List.take_length] at hend
 have c := cKept nl l 54 [.rp [.mp false ((seenN ids ids.length).1.map strK) ((seenN ids ids.length).2.map fun b => bV b)]] rfl (hasS ids) hs (fun x => by rw [← hend x]; exact cOnlyFn _ _ (hlen _) x)
 generalize (l.filter fun x => hasS ids x.id) = F at *
 refine Ctr.enter tblOk func23 rfl (by decide) rfl (nt := 21) rfl rfl rfl rfl ?_
 refine Trip.sr tblOk ?_
 refine Trip.sR tblOk (by repeat' (first | exact rfl | (apply Rule.sem; intro hγ; with_reducible apply F_makeMap) | constructor)) ?_
 refine Trip.seq (Trip.sr tblOk ?_)
 refine Trip.block ?_
 refine Trip.loop (fun (i : Nat) => ⟨[(2, .ref 2 0), (4, .ref 4 0), (5, .ref 5 0), (9, .sl ni 1 (ids.map fun x => sV x)), (10, iV ids.length), (11, iV i)], [(2, .box [.sl nl 3 (l.map It.pv)]), (4, .box [nilS]), (5, .box [.mref 8]), (8, .map ((seenN ids i).1.map strK) ((seenN ids i).2.map fun b => bV b))]⟩) (fun (i : Nat) => i ≤ ids.length) (fun (i : Nat) => ids.length - i) (0) (by first | omega | (simp; done)) (Weak.kp (ht := by repeat' (first | exact rfl | (refine vI ?_; first | omega | (simp; done) | (simp; omega) | (simp only [List.length_map] at *; omega)) | constructor))) ?_
 intro i hi2
 refine Trip.sr tblOk ?_
 refine Trip.seq ?_
 apply Trip.cond (.tmp rfl)
 ·intro h
  have h : i < ids.length := by simp at h; omega
  have hlen := hlen i
  have hstep : seenN ids (i + 1) = (mkeys (seenN ids i).1 ids[i]!, mset (seenN ids i).1 (seenN ids i).2 ids[i]! true) := rfl
  clear c hend
  generalize hq2 : seenN ids (i + 1) = q2 at *
  generalize seenN ids i = q at *
  obtain ⟨ks, bs⟩ := q
  subst hstep
  dsimp only at *
  refine Trip.skip (Trip.seq (Trip.block (Trip.sR tblOk (by repeat' (first | exact rfl | exact idx_map _ _ _ (by show _ < _; first | omega | (simp only [List.length_map] at *; omega)) | ((with_reducible refine Side.mk ?_); (simp only [ln]; first | done | omega)) | constructor)) ?_)))
  refine Trip.R tblOk (by repeat' (first | exact rfl | (apply Rule.sem; intro hγ; with_reducible apply F_mapUpdate (K := strK) (f := bV) tblOk hγ) | exact KeyLaw.str tblOk rfl rfl | ((with_reducible refine Side.mk ?_); omega) | constructor)) ?_
  refine Trip.R tblOk (by repeat' (first | exact rfl | ((with_reducible refine Side.mk ?_); omega) | constructor)) ?_
  exact ⟨i + 1, by first | omega | (dsimp only at *; omega), by first | omega | (dsimp only at *; omega), Weak.kp (ho := by repeat' (first | exact rfl | (rw [hq2]; rfl) | constructor)) (huo := by repeat' (first | exact rfl | exact plainL_map _ (fun _ => rfl) _ | constructor))⟩
 intro h
 have h : i = ids.length := by simp at h; omega
 subst h
 refine Trip.exit ?_
 generalize seenN ids ids.length = q at *
 obtain ⟨ks, bs⟩ := q
 dsimp only at *
 apply Trip.weak (S' := ⟨[(2, .ref 2 0), (4, .ref 4 0), (5, .rp [.mp false (ks.map strK) (bs.map fun b => bV b)])], [(2, .box [.sl nl 3 (l.map It.pv)]), (4, .box [nilS])]⟩)
 ·refine Weak.trans (S2 := ⟨[(2, .ref 2 0), (4, .ref 4 0), (5, .ref 5 0)], [(2, .box [.sl nl 3 (l.map It.pv)]), (4, .box [nilS]), (5, .box [.mref 8]), (8, .map (ks.map strK) (bs.map fun b => bV b))]⟩) ?_ (Weak.trans (S2 := ⟨[(2, .ref 2 0), (4, .ref 4 0), (5, .ref 5 0)], [(2, .box [.sl nl 3 (l.map It.pv)]), (4, .box [nilS]), (5, .box [.mp false (ks.map strK) (bs.map fun b => bV b)])]⟩) ?_ ?_)
  ·exact Weak.kp (huo := by repeat' (first | exact rfl | exact plainL_map _ (fun _ => rfl) _ | constructor))
  ·refine Weak.turn [8] rfl rfl ?_ ?_
   ·repeat' (first | exact rfl | constructor)
   ·repeat' (first | exact rfl | exact plainL_map _ (fun _ => rfl) _ | constructor)
  ·refine Weak.turn [5] rfl rfl ?_ ?_
   ·repeat' (first | exact rfl | constructor)
   ·repeat' (first | exact rfl | constructor)
 refine Trip.sR tblOk (by repeat' (first | exact rfl | (apply Rule.sem; intro hγ; with_reducible apply F_call0 (x := .func 53) (B := []) hγ (hspec := c)) | ((with_reducible refine Side.mk ?_); exact .inl rfl) | constructor)) ?_
 refine Trip.ret (rt1 [])
end Go.Proofs.Tryz
