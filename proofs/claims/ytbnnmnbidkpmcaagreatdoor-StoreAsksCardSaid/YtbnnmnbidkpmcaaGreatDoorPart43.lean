/- A part of the proof: Sa. -/
import Derived.Test.YtbnnmnbidkpmcaaGreatDoorPart42
set_option linter.unusedVariables false
set_option linter.unusedSimpArgs false
namespace Go.Proofs.Tryz
open Go Go.Sym Go.Graft
set_option maxRecDepth 20000
theorem cLinksN (k : Int) (b : Str) (cut : Bool) : Ctr prog 94 [objPV k b, bV cut] [] (.sl (linksOf k b).isEmpty 1 ((nmsOf k b cut).map fun x => sV x)) [] [] := by
  have c1 := cLinks k b
  have hn : nmsOf k b cut = if (cut && decide (k = 3)) = true then (linksOf k b).take 1 else linksOf k b := rfl
  generalize nmsOf k b cut = N at *
  generalize linksOf k b = l at *
  refine Ctr.enter tblOk func94 rfl (by decide) rfl (nt := 26) rfl rfl rfl rfl ?_
  refine Trip.seq ?_
  apply Trip.reg tblOk
  · repeat' (first | exact rfl | constructor)
  · exact rfl
  refine Trip.seq ?_
  apply Trip.reg tblOk
  · repeat' (first | exact rfl | (apply Rule.sem; intro hγ; with_reducible apply F_call0 (x := .func 136) (B := []) hγ (hspec := c1)) | ((with_reducible refine Side.mk ?_); exact .inl rfl) | constructor)
  · exact rfl
  refine Trip.seqk ⟨[(5, .sl l.isEmpty 1 (N.map fun x => sV x))], []⟩ ?_ ?_
  · refine Trip.seq ?_
    apply Trip.reg tblOk
    · repeat' (first | exact rfl | ((with_reducible refine Side.mk ?_); first | exact fun h => h | exact fun _ h => h) | constructor)
    · exact rfl
    apply Trip.cond (.tmp rfl)
    · intro h
      have h : (cut && decide (k = 3) && decide (0 < (((l.map fun x => sV x).length : Nat) : Int))) = true := h
      rw [List.length_map] at h
      simp only [Bool.and_eq_true, decide_eq_true_eq] at h
      rw [if_pos (by simp [h.1])] at hn
      subst hn
      rw [List.map_take]
      apply Trip.reg tblOk
      · repeat' (first | exact rfl | ((with_reducible refine bokR ?_); (simp only [ln]; first | done | omega)) | constructor)
      · exact rfl
      apply Weak.keep
      · exact rfl
      · repeat' (first | exact rfl | constructor)
      · repeat' constructor
      · exact rfl
      · repeat' constructor
    · intro h
      have h : (cut && decide (k = 3) && decide (0 < (((l.map fun x => sV x).length : Nat) : Int))) = false := h
      rw [List.length_map] at h
      have hN : N = l := by
        rw [hn]
        split
        · rename_i h2
          rw [h2] at h
          simp at h
          rw [List.take_of_length_le (by simp [h])]
        · rfl
      subst hN
      refine Trip.skip ?_
      apply Weak.keep
      · exact rfl
      · repeat' (first | exact rfl | constructor)
      · repeat' constructor
      · exact rfl
      · repeat' constructor
  refine Trip.seq ?_
  apply Trip.reg tblOk
  · repeat' (first | exact rfl | constructor)
  · exact rfl
  refine Trip.ret ?_
  apply Ret1 []
  · repeat' (first | exact rfl | constructor)
  · exact rfl
  · repeat' constructor
theorem cInsert17 (nl : Bool) (l : List Str) (x : Str) (hs : l.length ≤ 1000000000) : Ctr prog 92 [.sl nl 1 (l.map fun x => sV x), sV x] [] (.sl (if holdsP l x = true then nl else false) 1 ((insS l x).map fun x => sV x)) [] [] := by
  have c1 := cSpot nl l x (by omega)
  have hle : spot l x ≤ l.length := by rw [spot, halve_eq]; exact (hvAt_le _ _ 0 l.length rfl (Nat.zero_le _)).2
  have hh : holdsP l x = (decide (((spot l x : Nat) : Int) < (l.length : Int)) && decide (l[((spot l x : Nat) : Int).toNat]! = x)) := by
    rw [holdsP]
    have : decide (spot l x < l.length) = decide (((spot l x : Nat) : Int) < (l.length : Int)) := decide_eq_decide.2 (by omega)
    rw [this]; rfl
  have hi : insS l x = if holdsP l x = true then l else l.take (spot l x) ++ [x] ++ l.drop (spot l x) := rfl
  generalize insS l x = r at *
  generalize holdsP l x = hd at *
  generalize spot l x = p at *
  refine Ctr.enter tblOk func92 rfl (by decide) rfl (nt := 37) rfl rfl rfl rfl ?_
  refine Trip.seq ?_
  apply Trip.reg tblOk
  · repeat' constructor
  · exact rfl
  refine Trip.seq ?_
  apply Trip.reg tblOk
  · repeat' (first | exact rfl | (apply Rule.sem; intro hγ; with_reducible apply F_call0 (x := .func 64) (B := []) hγ (hspec := c1)) | ((with_reducible refine Side.mk ?_); exact .inl rfl) | constructor)
  · exact rfl
  refine Trip.seq ?_
  refine Trip.seq ?_
  apply Trip.reg tblOk
  · repeat' (first | exact rfl | (apply Rule.under tblOk; intro hγ; with_reducible apply Rule.indexAddr) | exact idx_map _ _ _ (by have h2 := hγ; simp only [gpick, cond_true, cond_false, decide_eq_true_eq, Bool.and_eq_true, Bool.or_eq_true, Bool.not_eq_true', Bool.not_eq_false', Bool.or_eq_false_iff, decide_eq_false_iff_not, List.length_map] at h2; show _ < _; omega) | ((with_reducible refine Side.mk ?_); first | exact fun h => h | exact fun _ h => h | exact fun _ => hγ | (have h2 := hγ; simp only [gpick, cond_true, cond_false, decide_eq_true_eq, Bool.and_eq_true, Bool.or_eq_true, Bool.not_eq_true', Bool.not_eq_false', Bool.or_eq_false_iff, decide_eq_false_iff_not, List.length_map] at h2; (try simp only [List.length_map]); omega)) | constructor)
  · exact rfl
  apply Trip.cond (.tmp rfl)
  · intro h
    have h : hd = true := by rw [hh]; simpa using h
    rw [if_pos h] at hi ⊢
    subst hi
    refine Trip.seq ?_
    apply Trip.reg tblOk
    · repeat' (first | exact rfl | constructor)
    · exact rfl
    refine Trip.ret ?_
    apply Ret1 []
    · repeat' (first | exact rfl | constructor)
    · exact rfl
    · repeat' constructor
  intro h
  have h : hd = false := by rw [hh]; simpa using h
  rw [if_neg (by rw [h]; simp)] at hi ⊢
  subst hi
  refine Trip.skip ?_
  apply Trip.regk ⟨[(0, .sl nl 1 (l.map fun x => sV x)), (1, sV x), (5, iV p), (6, .osl 23 0 (l.take p).length (l.take p).length)], [(23, .arr 1 false ((l.take p).map fun x => sV x))]⟩ tblOk
  · repeat' (first | exact rfl | (show cellsOkL (cellsOf (((l.map fun x => sV x).take p).drop 0)) = true; rw [List.drop_zero, ← List.map_take]; exact cellsOk_map _ (fun _ => rfl) _) | ((first | with_reducible refine bokR ?_ | with_reducible refine Side.mk ?_); (simp only [ln]; first | done | omega)) | constructor)
  · exact rfl
  · apply Weak.keep
    · exact rfl
    · repeat' (first | exact rfl | (refine Side.mk (oslE ?_ ?_) <;> simp [loOf, hiOf, List.take_of_length_le]) | constructor)
    · repeat' (first | exact rfl | exact arrF (by simp) (by simp [loOf, hiOf, List.take_of_length_le]) | constructor)
    · exact rfl
    · repeat' (first | exact plainL_map _ (fun _ => rfl) _ | constructor)
  apply Trip.regk ⟨[(0, .sl nl 1 (l.map fun x => sV x)), (5, iV p), (6, .osl 23 0 (l.take p ++ [x]).length (l.take p ++ [x]).length)], [(23, .arr 1 false ((l.take p ++ [x]).map fun x => sV x))]⟩ tblOk
  · repeat' (first | exact rfl | ((with_reducible refine Side.mk ?_); (simp only [ln]; first | done | omega)) | constructor)
  · exact rfl
  · apply Weak.keep
    · exact rfl
    · repeat' (first | exact rfl | (refine Side.mk (oslE ?_ ?_) <;> simp [loOf, hiOf, List.take_of_length_le]) | constructor)
    · repeat' (first | exact rfl | exact arrF (by simp) (by simp [loOf, hiOf, List.take_of_length_le]) | constructor)
    · exact rfl
    · repeat' (first | exact plainL_map _ (fun _ => rfl) _ | constructor)
  apply Trip.regk ⟨[(4, .osl 23 0 (l.take p ++ [x] ++ l.drop p).length (l.take p ++ [x] ++ l.drop p).length)], [(23, .arr 1 false ((l.take p ++ [x] ++ l.drop p).map fun x => sV x))]⟩ tblOk
  · repeat' (first | exact rfl | (show cellsOkL (cellsOf (((l.map fun x => sV x).take (l.map fun x => sV x).length).drop p)) = true; rw [List.take_length, ← List.map_drop]; exact cellsOk_map _ (fun _ => rfl) _) | ((first | with_reducible refine bokL ?_ | with_reducible refine Side.mk ?_); (simp only [ln]; first | done | omega)) | constructor)
  · exact rfl
  · apply Weak.keep
    · exact rfl
    · repeat' (first | exact rfl | (refine Side.mk (oslE ?_ ?_) <;> simp [loOf, hiOf, List.take_of_length_le]) | constructor)
    · repeat' (first | exact rfl | exact arrF (by simp) (by simp [loOf, hiOf, List.take_of_length_le]) | constructor)
    · exact rfl
    · repeat' (first | exact plainL_map _ (fun _ => rfl) _ | constructor)
  refine Trip.ret ?_
  apply Ret1 [23]
  · repeat' (first | exact rfl | constructor)
  · exact rfl
  · repeat' (first | exact rfl | exact plainL_map _ (fun _ => rfl) _ | (refine Side.mk ?_; simp only [ln]; first | done | omega) | constructor)
theorem cSorted17 (nl : Bool) (l : List Str) (hs : l.length ≤ 100000000) : Ctr prog 55 [.sl nl 1 (l.map fun x => sV x)] [] (.sl (decide (l.length = 0)) 1 ((sortS l).map fun x => sV x)) [] [] := by
  refine Ctr.enter tblOk func55 rfl (by decide) rfl (nt := 18) rfl rfl rfl rfl ?_
  refine Trip.seq ?_
  apply Trip.reg tblOk
  · repeat' constructor
  · exact rfl
  refine Trip.seq ?_
  apply Trip.reg tblOk
  · repeat' constructor
  · exact rfl
  refine Trip.seq ?_
  refine Trip.seq ?_
  apply Trip.reg tblOk
  · repeat' constructor
  · exact rfl
  refine Trip.block ?_
  apply Trip.loop (fun (i : Nat) => ⟨[(0, .sl nl 1 (l.map fun x => sV x)), (3, .sl (decide (i = 0)) 1 ((sortN l i).map fun x => sV x)), (4, iV i)], []⟩) (fun (i : Nat) => i ≤ l.length) (fun (i : Nat) => l.length - i) (0)
  · first | omega | (simp; done)
  · refine Weak.trans (S2 := ⟨[(0, .sl nl 1 (l.map fun x => sV x)), (3, nilS), (4, iV 0)], []⟩) ?_ (Weak.turn [] rfl rfl (.cons rfl .sl (.cons rfl .nilS (.cons rfl .v .nil))) .nil)
    apply Weak.keep
    · exact rfl
    · repeat' (first | exact rfl | constructor)
    · repeat' constructor
    · exact rfl
    · repeat' constructor
  intro i hi
  refine Trip.seq ?_
  refine Trip.seq ?_
  apply Trip.reg tblOk
  · repeat' (first | exact rfl | constructor)
  · exact rfl
  apply Trip.cond (.tmp rfl)
  · intro h
    have h : i < l.length := by simp at h; omega
    have hl := sortN_len l i
    have c1 := cInsert17 (decide (i = 0)) (sortN l i) l[i]! (by omega)
    have hst : sortN l (i + 1) = insS (sortN l i) l[i]! := rfl
    have hnl : (if holdsP (sortN l i) l[i]! = true then decide (i = 0) else false) = decide (i + 1 = 0) := by
      have e2 : decide (i + 1 = 0) = false := decide_eq_false (by omega)
      rw [e2]
      split
      · rename_i hh
        cases i with
        | zero => simp [sortN, holdsP] at hh
        | succ i => exact decide_eq_false (by omega)
      · rfl
    rw [hnl, ← hst] at c1
    generalize hs2 : sortN l (i + 1) = s2 at *
    generalize sortN l i = s1 at *
    refine Trip.skip ?_
    refine Trip.seq ?_
    refine Trip.block ?_
    apply Trip.reg tblOk
    · repeat' (first | exact rfl | (apply Rule.sem; intro hγ; with_reducible apply F_call0 (x := .func 92) (B := []) hγ (hspec := c1)) | exact idx_map _ _ _ (by show _ < _; first | omega | (simp only [List.length_map] at *; omega)) | ((with_reducible refine Side.mk ?_); first | exact .inl rfl | (simp only [ln]; first | done | omega)) | constructor)
    · exact rfl
    apply Trip.reg tblOk
    · repeat' (first | exact rfl | ((with_reducible refine Side.mk ?_); omega) | constructor)
    · exact rfl
    refine ⟨i + 1, ?_, ?_, ?_⟩
    · first | omega | (dsimp only at *; omega)
    · first | omega | (dsimp only at *; omega)
    · apply Weak.keep
      · exact rfl
      · repeat' (first | exact rfl | (rw [hs2]; rfl) | constructor)
      · repeat' constructor
      · exact rfl
      · repeat' constructor
  intro h
  have h : i = l.length := by simp at h; omega
  subst h
  refine Trip.exit ?_
  rw [sortS]
  refine Trip.seq ?_
  apply Trip.reg tblOk
  · repeat' (first | exact rfl | constructor)
  · exact rfl
  refine Trip.ret ?_
  apply Ret1 []
  · repeat' (first | exact rfl | constructor)
  · exact rfl
  · repeat' constructor
theorem cValid (nl : Bool) (l : List It) (hs : l.length ≤ 1000000000) : Ctr prog 9 [stPV nl l] [] (bV (rightSt l)) [] [] := by
  refine Ctr.enter tblOk func9 rfl (by decide) rfl (nt := 46) rfl rfl rfl rfl ?_
  refine Trip.seq ?_
  apply Trip.reg tblOk
  · repeat' (first | exact rfl | constructor)
  · exact rfl
  refine Trip.seq ?_
  refine Trip.seq ?_
  apply Trip.reg tblOk
  · repeat' (first | exact rfl | constructor)
  · exact rfl
  apply Trip.cond (.tmp rfl)
  · intro h
    have h : (65536 : Int) < l.length := by simpa using h
    rw [right_big h]
    refine Trip.seq ?_
    apply Trip.reg tblOk
    · repeat' constructor
    · exact rfl
    refine Trip.ret ?_
    apply Ret1 []
    · repeat' (first | exact rfl | constructor)
    · exact rfl
    · repeat' (exact cvB (by simp only [List.length_map]))
  intro h
  have h0 : (l.length : Int) ≤ 65536 := by simp at h; omega
  refine Trip.skip ?_
  refine Trip.seq ?_
  refine Trip.seq ?_
  apply Trip.reg tblOk
  · repeat' (first | exact rfl | constructor)
  · exact rfl
  refine Trip.block ?_
  apply Trip.loop (fun (i : Nat) => ⟨[(1, .ref 1 0), (10, .sl nl 3 (l.map It.pv)), (11, iV l.length), (12, iV i)], [(1, .box [.sl nl 3 (l.map It.pv)])]⟩) (fun (i : Nat) => i ≤ l.length ∧ ∀ j, j < i → itemBad l j = false) (fun (i : Nat) => l.length - i) (0)
  · exact ⟨Nat.zero_le _, fun j hj => absurd hj (by omega)⟩
  · apply Weak.keep
    · exact rfl
    · repeat' (first | exact rfl | (refine vI ?_; first | omega | (simp; done) | (simp; omega) | (simp only [List.length_map] at *; omega)) | constructor)
    · repeat' (first | exact rfl | constructor)
    · exact rfl
    · repeat' (first | exact rfl | constructor)
  intro i hi
  obtain ⟨hi, hj⟩ := hi
  refine Trip.seq ?_
  apply Trip.reg tblOk
  · repeat' (first | exact rfl | constructor)
  · exact rfl
  refine Trip.seq ?_
  apply Trip.cond (.tmp rfl)
  · intro h
    have h : i < l.length := by simp at h; omega
    have e1 : ((i : Int) - 1).toNat = i - 1 := by omega
    have hb : itemBad l i = ((decide (0 < (i : Int)) && !Op.bytesLess l[((i : Int) - 1).toNat]!.id l[i]!.id) || !decide (wholeE l[i]!.kind l[i]!.body = 0) || !decide (objId l[i]!.kind l[i]!.body = l[i]!.id)) := by rw [e1]; rfl
    have hno := right_no h
    have c1 := cOfIt l[i]!
    have c2 := cWhole l[i]!.kind l[i]!.body
    have c3 := cId l[i]!.kind l[i]!.body
    generalize wholeE l[i]!.kind l[i]!.body = we at *
    generalize objId l[i]!.kind l[i]!.body = oi at *
    refine Trip.skip ?_
    refine Trip.seq ?_
    refine Trip.block ?_
    refine Trip.seq ?_
    apply Trip.reg tblOk
    · repeat' (first | exact rfl | exact idx_map _ _ _ (by show _ < _; first | omega | (simp only [List.length_map] at *; omega)) | ((with_reducible refine Side.mk ?_); (simp only [ln]; first | done | omega)) | constructor)
    · exact rfl
    refine Trip.seq ?_
    apply Trip.drw tblOk mixed
    · repeat' (first | exact rfl | (apply Rule.under tblOk; intro hγ; with_reducible apply Rule.indexAddr) | exact idx_map _ _ _ (by have h2 := hγ; simp only [gpick, cond_true, cond_false, decide_eq_true_eq, Bool.and_eq_true, Bool.or_eq_true, Bool.not_eq_true', Bool.not_eq_false', Bool.or_eq_false_iff, decide_eq_false_iff_not, List.length_map] at h2; show _ < _; omega) | (apply Rule.sem; intro hγ; with_reducible apply F_call0 (x := .func 40) (B := []) hγ (hspec := c1)) | (apply Rule.sem; intro hγ; with_reducible apply F_call0 (x := .func 39) (B := []) hγ (hspec := c2)) | (apply Rule.sem; intro hγ; with_reducible apply F_call0 (x := .func 41) (B := []) hγ (hspec := c3)) | ((with_reducible refine Side.mk ?_); first | omega | exact .inl rfl | exact fun h => h | exact fun _ h => h | exact fun _ h => congrArg Bool.not h | exact fun _ => hγ | (have h2 := hγ; simp only [gpick, cond_true, cond_false, decide_eq_true_eq, Bool.and_eq_true, Bool.or_eq_true, Bool.not_eq_true', Bool.not_eq_false', Bool.or_eq_false_iff, decide_eq_false_iff_not, List.length_map] at h2; (try simp only [List.length_map]); omega)) | constructor)
    · exact rfl
    · kernel_rfl
    apply Trip.cond (.tmp rfl)
    · intro h2
      have h2 : itemBad l i = true := by rw [hb]; exact h2
      rw [hno h2]
      refine Trip.seq ?_
      apply Trip.reg tblOk
      · repeat' constructor
      · exact rfl
      refine Trip.ret ?_
      apply Ret1 []
      · repeat' (first | exact rfl | constructor)
      · exact rfl
      · repeat' (exact cvB (by simp only [List.length_map]))
    intro h2
    have h2 : itemBad l i = false := by rw [hb]; exact h2
    refine Trip.skip ?_
    apply Trip.reg tblOk
    · repeat' (first | exact rfl | ((with_reducible refine Side.mk ?_); omega) | constructor)
    · exact rfl
    refine ⟨i + 1, ?_, ?_, ?_⟩
    · exact ⟨by omega, fun j h3 => (Nat.lt_succ_iff_lt_or_eq.1 h3).elim (hj j) (fun e => e ▸ h2)⟩
    · first | omega | (dsimp only at *; omega)
    · apply Weak.keep
      · exact rfl
      · repeat' (first | exact rfl | constructor)
      · repeat' (first | exact rfl | constructor)
      · exact rfl
      · repeat' (first | exact rfl | constructor)
  intro h
  have h : i = l.length := by simp at h; omega
  subst h
  rw [right_yes h0 hj]
  refine Trip.exit ?_
  refine Trip.seq ?_
  apply Trip.reg tblOk
  · repeat' constructor
  · exact rfl
  refine Trip.ret ?_
  apply Ret1 []
  · repeat' (first | exact rfl | constructor)
  · exact rfl
  · repeat' (exact cvB (by simp only [List.length_map]))
theorem cRight17 (nl : Bool) (l : List It) (hs : l.length ≤ 1000000000) : Ctr prog 10 [stPV nl l] [] (bV (rightSt l)) [] [] := by
  refine Ctr.enter tblOk func10 rfl (by decide) rfl (nt := 53) rfl rfl rfl rfl ?_
  refine Trip.seq ?_
  apply Trip.reg tblOk
  · repeat' (first | exact rfl | constructor)
  · exact rfl
  refine Trip.seq ?_
  refine Trip.seq ?_
  apply Trip.reg tblOk
  · repeat' (first | exact rfl | constructor)
  · exact rfl
  apply Trip.cond (.tmp rfl)
  · intro h
    have h : (65536 : Int) < l.length := by simpa using h
    rw [right_big h]
    refine Trip.seq ?_
    apply Trip.reg tblOk
    · repeat' constructor
    · exact rfl
    refine Trip.ret ?_
    apply Ret1 []
    · repeat' (first | exact rfl | constructor)
    · exact rfl
    · repeat' (exact cvB (by simp only [List.length_map]))
  intro h
  have h0 : (l.length : Int) ≤ 65536 := by simp at h; omega
  refine Trip.skip ?_
  refine Trip.seq ?_
  refine Trip.seq ?_
  apply Trip.reg tblOk
  · repeat' constructor
  · exact rfl
  refine Trip.block ?_
  apply Trip.loop (fun (i : Nat) => ⟨[(1, .ref 1 0), (3, iV i)], [(1, .box [.sl nl 3 (l.map It.pv)])]⟩) (fun (i : Nat) => i ≤ l.length ∧ ∀ j, j < i → itemBad l j = false) (fun (i : Nat) => l.length - i) (0)
  · exact ⟨Nat.zero_le _, fun j hj => absurd hj (by omega)⟩
  · apply Weak.keep
    · exact rfl
    · repeat' (first | exact rfl | constructor)
    · repeat' (first | exact rfl | constructor)
    · exact rfl
    · repeat' (first | exact rfl | constructor)
  intro i hi
  obtain ⟨hi, hj⟩ := hi
  refine Trip.seq ?_
  refine Trip.seq ?_
  apply Trip.reg tblOk
  · repeat' (first | exact rfl | constructor)
  · exact rfl
  apply Trip.cond (.tmp rfl)
  · intro h
    have h : i < l.length := by simp at h; omega
    have e1 : ((i : Int) - 1).toNat = i - 1 := by omega
    have hb : itemBad l i = ((decide (0 < (i : Int)) && !Op.bytesLess l[((i : Int) - 1).toNat]!.id l[i]!.id) || !decide (wholeE l[i]!.kind l[i]!.body = 0) || !decide (objId l[i]!.kind l[i]!.body = l[i]!.id)) := by rw [e1]; rfl
    have hno := right_no h
    have c2 := cWhole16 l[i]!.kind l[i]!.body
    have c3 := cId2 l[i]!.kind l[i]!.body
    generalize wholeE l[i]!.kind l[i]!.body = we at *
    generalize objId l[i]!.kind l[i]!.body = oi at *
    refine Trip.skip ?_
    refine Trip.seq ?_
    refine Trip.block ?_
    refine Trip.seq ?_
    apply Trip.reg tblOk
    · repeat' (first | exact rfl | exact idx_map _ _ _ (by show _ < _; first | omega | (simp only [List.length_map] at *; omega)) | ((with_reducible refine Side.mk ?_); (simp only [ln]; first | done | omega)) | constructor)
    · exact rfl
    refine Trip.seq ?_
    apply Trip.reg tblOk
    · repeat' (first | exact rfl | constructor)
    · exact rfl
    refine Trip.seq ?_
    apply Trip.drw tblOk mixed
    · repeat' (first | exact rfl | (apply Rule.under tblOk; intro hγ; with_reducible apply Rule.indexAddr) | exact idx_map _ _ _ (by have h2 := hγ; simp only [gpick, cond_true, cond_false, decide_eq_true_eq, Bool.and_eq_true, Bool.or_eq_true, Bool.not_eq_true', Bool.not_eq_false', Bool.or_eq_false_iff, decide_eq_false_iff_not, List.length_map] at h2; show _ < _; omega) | (apply Rule.sem; intro hγ; with_reducible apply F_call0 (x := .func 17) (B := []) hγ (hspec := c2)) | (apply Rule.sem; intro hγ; with_reducible apply F_call0 (x := .func 16) (B := []) hγ (hspec := c3)) | ((with_reducible refine Side.mk ?_); first | omega | exact .inl rfl | exact fun h => h | exact fun _ h => h | exact fun _ h => congrArg Bool.not h | exact fun _ => hγ | (have h2 := hγ; simp only [gpick, cond_true, cond_false, decide_eq_true_eq, Bool.and_eq_true, Bool.or_eq_true, Bool.not_eq_true', Bool.not_eq_false', Bool.or_eq_false_iff, decide_eq_false_iff_not, List.length_map] at h2; (try simp only [List.length_map]); omega)) | constructor)
    · exact rfl
    · kernel_rfl
    apply Trip.cond (.tmp rfl)
    · intro h2
      have h2 : itemBad l i = true := by rw [hb]; exact h2
      rw [hno h2]
      refine Trip.seq ?_
      apply Trip.reg tblOk
      · repeat' constructor
      · exact rfl
      refine Trip.ret ?_
      apply Ret1 []
      · repeat' (first | exact rfl | constructor)
      · exact rfl
      · repeat' (exact cvB (by simp only [List.length_map]))
    intro h2
    have h2 : itemBad l i = false := by rw [hb]; exact h2
    refine Trip.skip ?_
    apply Trip.reg tblOk
    · repeat' (first | exact rfl | ((with_reducible refine Side.mk ?_); omega) | constructor)
    · exact rfl
    refine ⟨i + 1, ?_, ?_, ?_⟩
    · exact ⟨by omega, fun j h3 => (Nat.lt_succ_iff_lt_or_eq.1 h3).elim (hj j) (fun e => e ▸ h2)⟩
    · first | omega | (dsimp only at *; omega)
    · apply Weak.keep
      · exact rfl
      · repeat' (first | exact rfl | constructor)
      · repeat' (first | exact rfl | constructor)
      · exact rfl
      · repeat' (first | exact rfl | constructor)
  intro h
  have h : i = l.length := by simp at h; omega
  subst h
  rw [right_yes h0 hj]
  refine Trip.exit ?_
  refine Trip.seq ?_
  apply Trip.reg tblOk
  · repeat' constructor
  · exact rfl
  refine Trip.ret ?_
  apply Ret1 []
  · repeat' (first | exact rfl | constructor)
  · exact rfl
  · repeat' (exact cvB (by simp only [List.length_map]))
end Go.Proofs.Tryz
