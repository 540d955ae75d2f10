/- A part of the proof: Wb, Wc. -/
import Derived.Test.YteailifhgfijgaaGreatDoorPart33
set_option linter.unusedVariables false
set_option linter.unusedSimpArgs false
namespace Go.Proofs.Tryz
open Go Go.Sym Go.Graft
set_option maxRecDepth 20000
set_option maxHeartbeats 1000000 in
theorem cAdd06 (nl : Bool) (l : List Str) (x : Str) (ha : asc l) (hs : l.length ≤ 1000000000) : Ctr prog 33 [.sl nl 1 (l.map fun x => sV x), sV x] [] (.sl false 1 ((insS l x).map fun x => sV x)) [] [] := by
 have hP := addP_ins ha x
 have hne := insS_ne l x
 rw [← hP] at hne ⊢
 have hA : addP l x = if (addN l x l.length).1 = true then (addN l x l.length).2 else (addN l x l.length).2 ++ [x] := rfl
 rw [hA] at hne ⊢
 clear hA hP ha
 have hlen := addN_len l x
 refine Ctr.enter tblOk func33 rfl (by decide) rfl (nt := 48) rfl rfl rfl rfl ?_
 refine Trip.sr tblOk ?_
 refine Trip.sr tblOk ?_
 refine Trip.sr tblOk ?_
 refine Trip.seq (Trip.sr tblOk ?_)
 refine Trip.block ?_
 apply Trip.loop (fun (i : Nat) => ⟨[(0, .sl nl 1 (l.map fun x => sV x)), (1, sV x), (5, .osl 900 0 (addN l x i).2.length (addN l x i).2.length), (6, bV (addN l x i).1), (7, iV i)], [(900, .arr 1 (addN l x i).2.isEmpty ((addN l x i).2.map fun x => sV x))]⟩) (fun (i : Nat) => i ≤ l.length) (fun (i : Nat) => l.length - i) (0)
 ·first | omega | (simp; done)
 ·refine Weak.trans (S2 := ⟨[(0, .sl nl 1 (l.map fun x => sV x)), (1, sV x), (5, nilS), (6, bV false), (7, iV 0)], []⟩) ?_ ?_
  ·exact Weak.kp
  ·exact Weak.adopt 900 1 rfl rfl (by repeat' (first | exact rfl | constructor)) (by repeat' (first | exact rfl | constructor))
 intro i hi
 have hlen := hlen i
 have hl1 : (addN l x i).2.length ≤ i + 1 := Nat.le_trans hlen (by split <;> omega)
 have hst : addN l x (i + 1) = ((addN l x i).1 || !bl l[i]! x, if l[i]! = x then (if (!(addN l x i).1 && !bl l[i]! x) = true then (addN l x i).2 ++ [x] else (addN l x i).2) else (if (!(addN l x i).1 && !bl l[i]! x) = true then (addN l x i).2 ++ [x] else (addN l x i).2) ++ [l[i]!]) := rfl
 refine Trip.seq (Trip.sr tblOk ?_)
 apply Trip.cond (.tmp rfl)
 ·intro h
  have h : i < l.length := by simp at h; omega
  clear hne hlen
  generalize hq2 : addN l x (i + 1) = q2 at *
  generalize addN l x i = q at *
  obtain ⟨b, o⟩ := q
  obtain ⟨b2, o2⟩ := q2
  simp only [Prod.mk.injEq] at hst
  dsimp only at *
  obtain ⟨hb2, ho2⟩ := hst
  refine Trip.skip ?_
  refine Trip.seqk ⟨[(0, .sl nl 1 (l.map fun x => sV x)), (1, sV x), (5, .osl 900 0 o2.length o2.length), (6, bV b2), (7, iV i)], [(900, .arr 1 o2.isEmpty (o2.map fun x => sV x))]⟩ ?_ ?_
  ·refine Trip.block ?_
   refine Trip.seqk ⟨[(0, .sl nl 1 (l.map fun x => sV x)), (1, sV x), (5, .osl 900 0 (if (!b && !bl l[i]! x) = true then o ++ [x] else o).length (if (!b && !bl l[i]! x) = true then o ++ [x] else o).length), (6, bV b2), (7, iV i)], [(900, .arr 1 (if (!b && !bl l[i]! x) = true then o ++ [x] else o).isEmpty ((if (!b && !bl l[i]! x) = true then o ++ [x] else o).map fun x => sV x))]⟩ ?_ ?_
   ·refine Trip.sR tblOk (by repeat' (first | exact rfl | exact idx_map _ _ _ (by show _ < _; first | omega | (simp only [List.length_map] at *; omega)) | ((with_reducible refine Side.mk ?_); first | exact fun h => h | exact fun _ h => h | (simp only [ln]; first | done | omega)) | constructor)) ?_
    apply Trip.cond (.tmp rfl)
    ·intro h2
     have h2 : (!b && !bl l[i]! x) = true := h2
     rw [if_pos h2]
     have hb3 : b2 = true := by rw [hb2]; simp only [Bool.and_eq_true, Bool.not_eq_true'] at h2; rw [h2.2]; simp
     subst hb3
     refine Trip.sR tblOk (by repeat' (first | exact rfl | ((with_reducible refine Side.mk ?_); (simp only [ln]; first | done | omega)) | constructor)) ?_
     refine Trip.r tblOk ?_
     exact Weak.kp (ht := by repeat' (first | exact rfl | (refine Side.mk (oslE ?_ ?_) <;> (simp only [ln]; first | done | omega)) | constructor)) (ho := by repeat' (first | exact rfl | exact arrF (by simp) (by simp) | constructor)) (huo := by repeat' (first | exact plainL_map _ (fun _ => rfl) _ | constructor))
    ·intro h2
     have h2 : (!b && !bl l[i]! x) = false := h2
     rw [if_neg (by rw [h2]; simp)]
     have hb3 : b2 = b := by
      rw [hb2]
      exact (by decide : ∀ b t : Bool, (!b && !t) = false → (b || !t) = b) _ _ h2
     subst hb3
     refine Trip.skip ?_
     exact Weak.kp (huo := by repeat' (first | exact plainL_map _ (fun _ => rfl) _ | constructor))
   have hol : (if (!b && !bl l[i]! x) = true then o ++ [x] else o).length ≤ i + 2 := by
    split
    ·simp only [List.length_append, List.length_singleton]; omega
    ·omega
   generalize (if (!b && !bl l[i]! x) = true then o ++ [x] else o) = o1 at *
   refine Trip.sR tblOk (by repeat' (first | exact rfl | exact idx_map _ _ _ (by show _ < _; first | omega | (simp only [List.length_map] at *; omega)) | ((with_reducible refine Side.mk ?_); (simp only [ln]; first | done | omega)) | constructor)) ?_
   apply Trip.cond (.tmp rfl)
   ·intro h2
    have h2 : ¬ l[i]! = x := by simpa using h2
    rw [if_neg h2] at ho2
    subst ho2
    refine Trip.R tblOk (by repeat' (first | exact rfl | exact idx_map _ _ _ (by show _ < _; first | omega | (simp only [List.length_map] at *; omega)) | ((with_reducible refine Side.mk ?_); (simp only [ln]; first | done | omega)) | constructor)) ?_
    exact Weak.kp (ht := by repeat' (first | exact rfl | (refine Side.mk (oslE ?_ ?_) <;> (simp only [ln]; first | done | omega)) | constructor)) (ho := by repeat' (first | exact rfl | exact arrF (by simp) (by simp) | constructor)) (huo := by repeat' (first | exact plainL_map _ (fun _ => rfl) _ | constructor))
   ·intro h2
    have h2 : l[i]! = x := by simpa using h2
    rw [if_pos h2] at ho2
    subst ho2
    refine Trip.skip ?_
    exact Weak.kp (huo := by repeat' (first | exact plainL_map _ (fun _ => rfl) _ | constructor))
  refine Trip.R tblOk (by repeat' (first | exact rfl | ((with_reducible refine Side.mk ?_); omega) | constructor)) ?_
  exact ⟨i + 1, by first | omega | (dsimp only at *; omega), by first | omega | (dsimp only at *; omega), Weak.kp (ht := by repeat' (first | exact rfl | (rw [hq2]; rfl) | constructor)) (ho := by repeat' (first | exact rfl | (rw [hq2]; rfl) | constructor)) (huo := by repeat' (first | exact plainL_map _ (fun _ => rfl) _ | constructor))⟩
 intro h
 have h : i = l.length := by simp at h; omega
 subst h
 clear hst
 generalize addN l x l.length = q at *
 obtain ⟨b, o⟩ := q
 dsimp only at *
 refine Trip.exit ?_
 refine Trip.seqk ⟨[(5, .osl 900 0 (if b = true then o else o ++ [x]).length (if b = true then o else o ++ [x]).length)], [(900, .arr 1 false ((if b = true then o else o ++ [x]).map fun x => sV x))]⟩ ?_ ?_
 ·refine Trip.sr tblOk ?_
  apply Trip.cond (.tmp rfl)
  ·intro h
   have h : ¬ b = true := by simpa using h
   rw [if_neg h]
   refine Trip.R tblOk (by repeat' (first | exact rfl | ((with_reducible refine Side.mk ?_); (simp only [ln]; first | done | omega)) | constructor)) ?_
   exact Weak.kp (ht := by repeat' (first | exact rfl | (refine Side.mk (oslE ?_ ?_) <;> (simp only [ln]; first | done | omega)) | constructor)) (ho := by repeat' (first | exact rfl | exact arrF (by simp) (by simp) | constructor)) (huo := by repeat' (first | exact plainL_map _ (fun _ => rfl) _ | constructor))
  ·intro h
   have h : b = true := by simpa using h
   rw [if_pos h] at hne
   rw [if_pos h]
   refine Trip.skip ?_
   exact Weak.kp (ho := by repeat' (first | exact rfl | exact arrF hne rfl | constructor)) (huo := by repeat' (first | exact plainL_map _ (fun _ => rfl) _ | constructor))
 refine Trip.sr tblOk ?_
 refine Trip.ret (rt1 [900] (hc := by repeat' (first | exact rfl | exact plainL_map _ (fun _ => rfl) _ | (refine Side.mk ?_; simp only [ln]; first | done | omega) | constructor)))
theorem cSet06 (nl : Bool) (l : List Str) (hs : l.length ≤ 100000000) : Ctr prog 16 [.sl nl 1 (l.map fun x => sV x)] [] (.sl (decide (l.length = 0)) 1 ((sortS l).map fun x => sV x)) [] [] := by
 refine Ctr.enter tblOk func16 rfl (by decide) rfl (nt := 18) rfl rfl rfl rfl ?_
 refine Trip.sr tblOk ?_
 refine Trip.sr tblOk ?_
 refine Trip.seq (Trip.sr tblOk ?_)
 refine Trip.block ?_
 apply Trip.loop (fun (i : Nat) => ⟨[(0, .sl nl 1 (l.map fun x => sV x)), (3, .sl (decide (i = 0)) 1 ((sortN l i).map fun x => sV x)), (4, iV i)], []⟩) (fun (i : Nat) => i ≤ l.length) (fun (i : Nat) => l.length - i) (0)
 ·first | omega | (simp; done)
 ·refine Weak.trans (S2 := ⟨[(0, .sl nl 1 (l.map fun x => sV x)), (3, nilS), (4, iV 0)], []⟩) ?_ (Weak.turn [] rfl rfl (.cons rfl .sl (.cons rfl .nilS (.cons rfl .v .nil))) .nil)
  exact Weak.kp
 intro i hi
 refine Trip.seq (Trip.sr tblOk ?_)
 apply Trip.cond (.tmp rfl)
 ·intro h
  have h : i < l.length := by simp at h; omega
  have hl := sortN_len l i
  have c1 := cAdd06 (decide (i = 0)) (sortN l i) l[i]! (sortN_asc l i) (by omega)
  have hst : sortN l (i + 1) = insS (sortN l i) l[i]! := rfl
  rw [← hst, show false = decide (i + 1 = 0) from (decide_eq_false (by omega)).symm] at c1
  generalize hs2 : sortN l (i + 1) = s2 at *
  generalize sortN l i = s1 at *
  refine Trip.skip (Trip.seq (Trip.block (Trip.R tblOk (by repeat' (first | exact rfl | (apply Rule.sem; intro hγ; with_reducible apply F_call0 (x := .func 33) (B := []) hγ (hspec := c1)) | exact idx_map _ _ _ (by show _ < _; first | omega | (simp only [List.length_map] at *; omega)) | ((with_reducible refine Side.mk ?_); first | exact .inl rfl | (simp only [ln]; first | done | omega)) | constructor)) ?_)))
  refine Trip.R tblOk (by repeat' (first | exact rfl | ((with_reducible refine Side.mk ?_); omega) | constructor)) ?_
  exact ⟨i + 1, by first | omega | (dsimp only at *; omega), by first | omega | (dsimp only at *; omega), Weak.kp (ht := by repeat' (first | exact rfl | (rw [hs2]; rfl) | constructor))⟩
 intro h
 have h : i = l.length := by simp at h; omega
 subst h
 refine Trip.exit ?_
 rw [sortS]
 refine Trip.sr tblOk ?_
 refine Trip.ret (rt1 [])
theorem cAll47 (na nb : Bool) (a b : List Str) (haa : asc a) (hs : a.length + b.length ≤ 100000000) : Ctr prog 30 [.sl na 1 (a.map fun x => sV x), .sl nb 1 (b.map fun x => sV x)] [] (.sl (if b.length = 0 then na else false) 1 ((sortS (a ++ b)).map fun x => sV x)) [] [] := by
 refine Ctr.enter tblOk func30 rfl (by decide) rfl (nt := 19) rfl rfl rfl rfl ?_
 refine Trip.sr tblOk ?_
 refine Trip.seq (Trip.sr tblOk ?_)
 refine Trip.block ?_
 refine Trip.loop (fun (i : Nat) => ⟨[(0, .sl (if i = 0 then na else false) 1 ((sortS (a ++ b.take i)).map fun x => sV x)), (1, .sl nb 1 (b.map fun x => sV x)), (5, iV i)], []⟩) (fun (i : Nat) => i ≤ b.length) (fun (i : Nat) => b.length - i) (0) (by first | omega | (simp; done)) (Weak.kp (ht := by repeat' (first | exact rfl | (show PV.sl na 1 _ = .sl na 1 _; rw [List.take_zero, List.append_nil, sortS_self haa]) | constructor))) ?_
 intro i hi
 refine Trip.seq (Trip.sr tblOk ?_)
 apply Trip.cond (.tmp rfl)
 ·intro h
  have h : i < b.length := by simp at h; omega
  have hl := sortS_le (a ++ b.take i)
  simp only [List.length_append, List.length_take] at hl
  have c1 := cAdd06 (if i = 0 then na else false) (sortS (a ++ b.take i)) b[i]! (sortS_asc _) (by omega)
  have hst : sortS (a ++ b.take (i + 1)) = insS (sortS (a ++ b.take i)) b[i]! := by rw [take_snoc b i h, ← List.append_assoc, sortS_snoc2]
  rw [← hst, show false = (if i + 1 = 0 then na else false) from (if_neg (by omega)).symm] at c1
  generalize hs2 : sortS (a ++ b.take (i + 1)) = s2 at *
  generalize sortS (a ++ b.take i) = s1 at *
  refine Trip.skip (Trip.seq (Trip.block (Trip.R tblOk (by repeat' (first | exact rfl | (apply Rule.sem; intro hγ; with_reducible apply F_call0 (x := .func 33) (B := []) hγ (hspec := c1)) | exact idx_map _ _ _ (by show _ < _; first | omega | (simp only [List.length_map] at *; omega)) | ((with_reducible refine Side.mk ?_); first | exact .inl rfl | (simp only [ln]; first | done | omega)) | constructor)) ?_)))
  refine Trip.R tblOk (by repeat' (first | exact rfl | ((with_reducible refine Side.mk ?_); omega) | constructor)) ?_
  exact ⟨i + 1, by first | omega | (dsimp only at *; omega), by first | omega | (dsimp only at *; omega), Weak.kp (ht := by repeat' (first | exact rfl | (rw [hs2]; rfl) | constructor))⟩
 intro h
 have h : i = b.length := by simp at h; omega
 subst h
 rw [List.take_length]
 refine Trip.exit (Trip.sr tblOk ?_)
 refine Trip.ret (rt1 [])
def stN (l : List It) (cuts met frm : List Str) (i k : Nat) : List Str := sortS ((flatP l cuts (frm.take i) ++ (rdP l cuts frm[i]!).take k).filter fun x => !hasS met x)
theorem stN_in (l : List It) (cuts met frm : List Str) {i k : Nat} (hk : k < (rdP l cuts frm[i]!).length) : stN l cuts met frm i (k + 1) = if hasS met (rdP l cuts frm[i]!)[k]! = true then stN l cuts met frm i k else insS (stN l cuts met frm i k) (rdP l cuts frm[i]!)[k]! := by
 rw [stN, take_snoc _ k hk, ← List.append_assoc, List.filter_append]
 split
 ·rename_i h; rw [List.filter_cons_of_neg (by rw [h]; simp), List.filter_nil, List.append_nil]; rfl
 ·rename_i h; rw [List.filter_cons_of_pos (by simpa using h), List.filter_nil, sortS_snoc2]; rfl
theorem stN_out (l : List It) (cuts met frm : List Str) {i : Nat} (hi : i < frm.length) : stN l cuts met frm (i + 1) 0 = stN l cuts met frm i (rdP l cuts frm[i]!).length := by
 rw [stN, stN, List.take_length, List.take_zero, List.append_nil, flatP, take_snoc frm i hi, List.flatMap_append]
 congr 2
 simp [flatP]
theorem stN_end (l : List It) (cuts met frm : List Str) : stN l cuts met frm frm.length 0 = nextR l cuts frm met := by
 rw [stN, List.take_length, List.take_zero, List.append_nil, nextR]
theorem stN_len {l : List It} (hb : ∀ x ∈ l, x.body.length ≤ 3000) (cuts met frm : List Str) (i k : Nat) : (stN l cuts met frm i k).length ≤ l.length * 3000 := by
 refine Nat.le_trans (nodup_len (asc_nodup (by rw [stN]; exact sortS_asc _)) fun y hy => ?_) (allP_len l hb)
 rw [stN, sortS_mem, List.mem_filter, List.mem_append] at hy
 rcases hy.1 with h | h
 ·exact flatP_all h
 ·exact (rdP_all (List.mem_of_mem_take h)).1
set_option maxHeartbeats 1000000 in
theorem cStep47 (v : Vw) (nf nm : Bool) (frm met : List Str) (hs : v.l.length ≤ 1000) (hc : v.cuts.length ≤ 1000000000) (hb : ∀ x ∈ v.l, x.body.length ≤ 3000) (hf : frm.length ≤ 1000000000) (hm : met.length ≤ 1000000000) :
  Ctr prog 31 [v.pv, .sl nf 1 (frm.map fun x => sV x), .sl nm 1 (met.map fun x => sV x)] [] (.tup [.sl (if errF v.l frm ≠ 0 then [] else nextR v.l v.cuts frm met).isEmpty 1 ((if errF v.l frm ≠ 0 then [] else nextR v.l v.cuts frm met).map fun x => sV x), iV (errF v.l frm)]) [] [] := by
 have c1 := fun id => cPar22 v id (by omega) hc (fun x hx => by have := hb x hx; omega)
 obtain ⟨nl, l, nr, rf, ng, lg, nc, cuts⟩ := v
 dsimp only at *
 refine Ctr.enter tblOk func31 rfl (by decide) rfl (nt := 51) rfl rfl rfl rfl ?_
 refine Trip.sr tblOk ?_
 refine Trip.sr tblOk ?_
 refine Trip.seq (Trip.sr tblOk ?_)
 refine Trip.block ?_
 apply Trip.loop (fun (i : Nat) => ⟨[(1, .sl nf 1 (frm.map fun x => sV x)), (2, .sl nm 1 (met.map fun x => sV x)), (3, .ref 3 0), (8, .sl (stN l cuts met frm i 0).isEmpty 1 ((stN l cuts met frm i 0).map fun x => sV x)), (9, iV i)], [(3, .box (Vw.cells ⟨nl, l, nr, rf, ng, lg, nc, cuts⟩))]⟩) (fun (i : Nat) => i ≤ frm.length ∧ errF l (frm.take i) = 0) (fun (i : Nat) => frm.length - i) (0)
 ·exact ⟨Nat.zero_le _, rfl⟩
 ·refine Weak.trans (S2 := ⟨[(1, .sl nf 1 (frm.map fun x => sV x)), (2, .sl nm 1 (met.map fun x => sV x)), (3, .ref 3 0), (8, nilS), (9, iV 0)], [(3, .box (Vw.cells ⟨nl, l, nr, rf, ng, lg, nc, cuts⟩))]⟩) ?_ ?_
  ·exact Weak.kp
  ·refine Weak.turn [] rfl rfl ?_ ?_
   ·exact .cons rfl .sl (.cons rfl .sl (.cons rfl (.ref rfl) (.cons rfl .nilS (.cons rfl .v .nil))))
   ·exact .box rfl (.cons .sl (.cons .sl (.cons .sl (.cons .sl .nil)))) .nil
 rintro i ⟨hi, he⟩
 refine Trip.seq (Trip.sr tblOk ?_)
 apply Trip.cond (.tmp rfl)
 ·intro h
  have h : i < frm.length := by simp at h; omega
  have c1 := c1 frm[i]!
  have htk := take_snoc frm i h
  have hfr : frm = frm.take i ++ frm[i]! :: frm.drop (i + 1) := by
   conv => lhs; rw [← List.take_append_drop (i + 1) frm]
   rw [htk, List.append_assoc]; rfl
  have hout := stN_out l cuts met frm h
  have hin := fun k hk => stN_in l cuts met frm (i := i) (k := k) hk
  have hsl := fun k => stN_len hb cuts met frm i k
  have hz : rdE l frm[i]! ≠ 0 → rdP l cuts frm[i]! = [] := fun h => by rw [rdP, if_pos h]
  have hpl := rdP_len l cuts frm[i]! hb
  generalize hps : rdP l cuts frm[i]! = ps at *
  refine Trip.skip (Trip.seq (Trip.block (Trip.sD tblOk mixed (by repeat' (first | exact rfl | (apply Rule.sem; intro hγ; with_reducible apply F_call0 (x := .func 32) (B := []) hγ (hspec := c1)) | exact idx_map _ _ _ (by show _ < _; first | omega | (simp only [List.length_map] at *; omega)) | ((with_reducible refine Side.mk ?_); first | exact .inl rfl | (simp only [ln]; first | done | omega)) | constructor)) ?_)))
  refine Trip.seq (Trip.sr tblOk ?_)
  apply Trip.cond (.tmp rfl)
  ·intro h2
   have h2 : rdE l frm[i]! ≠ 0 := by simpa using h2
   have hbad : errF l frm = rdE l frm[i]! := by
    conv => lhs; rw [hfr]
    exact errF_bad l _ he h2
   rw [hbad, if_pos h2]
   refine Trip.sr tblOk ?_
   refine Trip.ret (rt2 [])
  intro h2
  have h2 : rdE l frm[i]! = 0 := by simpa using h2
  refine Trip.skip (Trip.sr tblOk ?_)
  refine Trip.block ?_
  refine Trip.loop (fun (k : Nat) => ⟨[(1, .sl nf 1 (frm.map fun x => sV x)), (2, .sl nm 1 (met.map fun x => sV x)), (3, .ref 3 0), (8, .sl (stN l cuts met frm i k).isEmpty 1 ((stN l cuts met frm i k).map fun x => sV x)), (9, iV i), (10, .sl ps.isEmpty 1 (ps.map fun x => sV x)), (12, iV k)], [(3, .box (Vw.cells ⟨nl, l, nr, rf, ng, lg, nc, cuts⟩))]⟩) (fun (k : Nat) => k ≤ ps.length) (fun (k : Nat) => ps.length - k) (0) (by first | omega | (simp; done)) Weak.kp ?_
  intro k hk
  refine Trip.seq (Trip.sr tblOk ?_)
  apply Trip.cond (.tmp rfl)
  ·intro h3
   have h3 : k < ps.length := by simp at h3; omega
   have hin := hin k h3
   have hsl := hsl k
   have c2 := cHas06 nm met ps[k]! (by omega)
   have hasc : asc (stN l cuts met frm i k) := by rw [stN]; exact sortS_asc _
   generalize hs2 : stN l cuts met frm i (k + 1) = s2 at *
   generalize stN l cuts met frm i k = s1 at *
   have c3 := cAdd06 s1.isEmpty s1 ps[k]! hasc (by omega)
   have hine := insS_ne s1 ps[k]!
   generalize insS s1 ps[k]! = s3 at *
   generalize hasS met ps[k]! = q at *
   refine Trip.skip ?_
   refine Trip.seqk ⟨[(1, .sl nf 1 (frm.map fun x => sV x)), (2, .sl nm 1 (met.map fun x => sV x)), (3, .ref 3 0), (8, .sl s2.isEmpty 1 (s2.map fun x => sV x)), (9, iV i), (10, .sl ps.isEmpty 1 (ps.map fun x => sV x)), (12, iV k)], [(3, .box (Vw.cells ⟨nl, l, nr, rf, ng, lg, nc, cuts⟩))]⟩ ?_ ?_
   ·refine Trip.block (Trip.sR tblOk (by repeat' (first | exact rfl | (apply Rule.sem; intro hγ; with_reducible apply F_call0 (x := .func 17) (B := []) hγ (hspec := c2)) | exact idx_map _ _ _ (by show _ < _; first | omega | (simp only [List.length_map] at *; omega)) | ((with_reducible refine Side.mk ?_); first | exact .inl rfl | (simp only [ln]; first | done | omega)) | constructor)) ?_)
    apply Trip.cond (.tmp rfl)
    ·intro h4
     have h4 : ¬ q = true := by simpa using h4
     rw [if_neg h4] at hin
     subst hin
     rw [hine]
     refine Trip.R tblOk (by repeat' (first | exact rfl | (apply Rule.sem; intro hγ; with_reducible apply F_call0 (x := .func 33) (B := []) hγ (hspec := c3)) | exact idx_map _ _ _ (by show _ < _; first | omega | (simp only [List.length_map] at *; omega)) | ((with_reducible refine Side.mk ?_); first | exact .inl rfl | (simp only [ln]; first | done | omega)) | constructor)) ?_
     exact Weak.kp
    ·intro h4
     have h4 : q = true := by simpa using h4
     rw [if_pos h4] at hin
     subst hin
     refine Trip.skip ?_
     exact Weak.kp
   refine Trip.R tblOk (by repeat' (first | exact rfl | ((with_reducible refine Side.mk ?_); omega) | constructor)) ?_
   exact ⟨k + 1, by first | omega | (dsimp only at *; omega), by first | omega | (dsimp only at *; omega), Weak.kp (ht := by repeat' (first | exact rfl | (rw [hs2]; rfl) | constructor))⟩
  intro h3
  have h3 : k = ps.length := by simp at h3; omega
  subst h3
  refine Trip.exit ?_
  rw [← hout]
  refine Trip.R tblOk (by repeat' (first | exact rfl | ((with_reducible refine Side.mk ?_); omega) | constructor)) ?_
  exact ⟨i + 1, by exact ⟨by omega, by rw [htk, errF_app l _ _ he, errF, if_neg (fun k => k h2)]; rfl⟩, by first | omega | (dsimp only at *; omega), Weak.kp⟩
 intro h
 have h : i = frm.length := by simp at h; omega
 subst h
 rw [List.take_length] at he
 rw [he, if_neg (by simp), stN_end]
 refine Trip.exit (Trip.sr tblOk ?_)
 refine Trip.ret (rt2 [])
end Go.Proofs.Tryz
namespace Go.Proofs.Tryz
open Go Go.Sym Go.Graft
set_option maxRecDepth 20000
def depAll (l : List It) (cuts wants : List Str) (n : Int) : List Str × List Str × Int := if n < 1 then ([], [], 1) else depR l cuts n.toNat wants []
theorem sortS_ne {a : List Str} (h : a ≠ []) : (sortS a).isEmpty = false := by
 rw [List.isEmpty_eq_false_iff_exists_mem]
 obtain ⟨x, hx⟩ := List.exists_mem_of_ne_nil a h
 exact ⟨x, (sortS_mem a x).2 hx⟩
theorem ends_snoc (l : List It) (cuts level : List Str) {i : Nat} (h : i < level.length) : endsR l cuts (level.take (i + 1)) = if (rdP l cuts level[i]!).isEmpty = true then endsR l cuts (level.take i) else insS (endsR l cuts (level.take i)) level[i]! := by
 rw [endsR, endsR, take_snoc level i h, List.filter_append]
 split
 ·rename_i hx; rw [List.filter_cons_of_neg (by rw [hx]; simp), List.filter_nil, List.append_nil]
 ·rename_i hx; rw [List.filter_cons_of_pos (by simpa using hx), List.filter_nil, sortS_snoc2]
set_option maxHeartbeats 2000000 in
theorem cDepthR (v : Vw) (nw : Bool) (wants : List Str) (n : Int) (hs : v.l.length ≤ 1000) (hc : v.cuts.length ≤ 1000000000) (hb : ∀ x ∈ v.l, x.body.length ≤ 3000) (hw : wants.length ≤ 1000) (hn : n ≤ 9223372036854775807) :
  Ctr prog 10 [v.pv, .sl nw 1 (wants.map fun x => sV x), iV n] [] (.tup [.sl (depAll v.l v.cuts wants n).1.isEmpty 1 ((depAll v.l v.cuts wants n).1.map fun x => sV x), .sl (depAll v.l v.cuts wants n).2.1.isEmpty 1 ((depAll v.l v.cuts wants n).2.1.map fun x => sV x), iV (depAll v.l v.cuts wants n).2.2]) [] [] := by
 have c2 := fun (fl fm : Bool) (level met : List Str) => cStep47 v fl fm level met hs hc hb
 have c4 := fun id => cPar22 v id (by omega) hc (fun x hx => by have := hb x hx; omega)
 have hD : depAll v.l v.cuts wants n = if n < 1 then ([], [], 1) else depR v.l v.cuts n.toNat wants [] := rfl
 obtain ⟨nl, l, nr, rf, ng, lg, nc, cuts⟩ := v
 dsimp only at *
 have hall := allP_len l hb
 generalize depAll l cuts wants n = D at *
 refine Ctr.enter tblOk func10 rfl (by decide) rfl (nt := 71) rfl rfl rfl rfl ?_
 refine Trip.sr tblOk ?_
 refine Trip.seq (Trip.sr tblOk ?_)
 apply Trip.cond (.tmp rfl)
 ·intro h
  have h : n < 1 := by simpa using h
  rw [if_pos h] at hD
  subst hD
  refine Trip.sr tblOk ?_
  refine Trip.ret (rt3 [])
 intro h
 have h : ¬ n < 1 := by simpa using h
 rw [if_neg h] at hD
 obtain ⟨m, hm⟩ : ∃ m : Nat, n = (m : Int) := ⟨n.toNat, by omega⟩
 subst hm
 rw [Int.toNat_natCast] at hD
 have hm1 : 1 ≤ m := by omega
 clear h
 refine Trip.skip (Trip.sr tblOk ?_)
 refine Trip.sr tblOk ?_
 refine Trip.seq (Trip.sr tblOk ?_)
 refine Trip.block ?_
 apply Trip.loop (fun (q : Nat × Bool × List Str × List Str) => ⟨[(2, iV m), (3, .ref 3 0), (9, .sl q.2.1 1 (q.2.2.1.map fun x => sV x)), (10, .sl q.2.2.2.isEmpty 1 (q.2.2.2.map fun x => sV x)), (11, .sl true 1 []), (12, iV q.1)], [(3, .box (Vw.cells ⟨nl, l, nr, rf, ng, lg, nc, cuts⟩))]⟩) (fun (q : Nat × Bool × List Str × List Str) => 1 ≤ q.1 ∧ q.1 ≤ m ∧ depR l cuts (m - q.1 + 1) q.2.2.1 q.2.2.2 = D ∧ asc q.2.2.2 ∧ q.2.2.1.length ≤ 3000000 ∧ (∀ x ∈ q.2.2.1, x ∈ wants ++ allP l) ∧ (∀ x ∈ q.2.2.2, x ∈ wants ++ allP l)) (fun (q : Nat × Bool × List Str × List Str) => m - q.1) ((1, nw, wants, []))
 ·exact ⟨Nat.le_refl _, hm1, by rw [hD, show m - 1 + 1 = m by omega], List.Pairwise.nil, by dsimp only; omega, fun x hx => List.mem_append_left _ hx, by simp⟩
 ·refine Weak.trans (S2 := ⟨[(2, iV m), (3, .ref 3 0), (9, .sl nw 1 (wants.map fun x => sV x)), (10, nilS), (11, nilS), (12, iV 1)], [(3, .box (Vw.cells ⟨nl, l, nr, rf, ng, lg, nc, cuts⟩))]⟩) ?_ ?_
  ·exact Weak.kp
  ·refine Weak.turn [] rfl rfl ?_ ?_
   ·exact .cons rfl .v (.cons rfl (.ref rfl) (.cons rfl .sl (.cons rfl .nilS (.cons rfl .nilS (.cons rfl .v .nil)))))
   ·exact .box rfl (.cons .sl (.cons .sl (.cons .sl (.cons .sl .nil)))) .nil
 rintro ⟨k, fl, level, met⟩ ⟨hk1, hkm, hdep, hasc, hlv, hlm, hmm⟩
 dsimp only at *
 have hml : met.length ≤ 1000 + l.length * 3000 := by
  have := nodup_len (asc_nodup hasc) hmm
  rw [List.length_append] at this; omega
 refine Trip.seq (Trip.sr tblOk ?_)
 apply Trip.cond (.tmp rfl)
 ·intro h
  have h : level ≠ [] := by rintro rfl; simp at h
  have h0 : ¬ level.length = 0 := fun e => h (List.length_eq_zero_iff.1 e)
  have c1 := cAll47 met.isEmpty fl met level hasc (by omega)
  rw [if_neg h0] at c1
  have hne2 := sortS_ne (a := met ++ level) (by simp [h])
  have hasc2 := sortS_asc (met ++ level)
  have hmm2 : ∀ x ∈ sortS (met ++ level), x ∈ wants ++ allP l := fun x hx => by
   rw [sortS_mem, List.mem_append] at hx
   exact hx.elim (hmm x) (hlm x)
  have hml2 : (sortS (met ++ level)).length ≤ 1000 + l.length * 3000 := by
   have := nodup_len (asc_nodup hasc2) hmm2
   rw [List.length_append] at this; omega
  rw [depR, if_neg h] at hdep
  generalize hM : sortS (met ++ level) = met2 at *
  have c2 := c2 fl false level met2 (by omega) (by omega)
  have hnl := nextR_len hb cuts level met2
  have hnm : ∀ x ∈ nextR l cuts level met2, x ∈ wants ++ allP l := fun x hx => List.mem_append_right _ (nextR_mem hx)
  generalize nextR l cuts level met2 = nx at *
  generalize hE : errF l level = E at *
  refine Trip.skip (Trip.seq (Trip.block (Trip.sR tblOk (by repeat' (first | exact rfl | (apply Rule.sem; intro hγ; with_reducible apply F_call0 (x := .func 30) (B := []) hγ (hspec := c1)) | ((with_reducible refine Side.mk ?_); exact .inl rfl) | constructor)) ?_)))
  refine Trip.sR tblOk (by repeat' (first | exact rfl | (apply Rule.sem; intro hγ; with_reducible apply F_call0 (x := .func 31) (B := []) hγ (hspec := c2)) | ((with_reducible refine Side.mk ?_); exact .inl rfl) | constructor)) ?_
  refine Trip.seq (Trip.sr tblOk ?_)
  apply Trip.cond (.tmp rfl)
  ·intro h2
   have h2 : E ≠ 0 := by simpa using h2
   rw [if_pos h2] at hdep
   subst hdep
   refine Trip.sr tblOk ?_
   refine Trip.ret (rt3 [])
  intro h2
  have h2 : E = 0 := by simpa using h2
  subst h2
  rw [if_neg (by simp)] at hdep
  simp only [ne_eq, not_true_eq_false, if_false]
  refine Trip.skip (Trip.seq (Trip.sr tblOk ?_))
  apply Trip.cond (.tmp rfl)
  ·intro h3
   have h3 : k = m := by simp at h3; omega
   rw [if_pos (by omega)] at hdep
   subst hdep
   refine Trip.seq (Trip.sr tblOk ?_)
   refine Trip.block ?_
   refine Trip.loop (fun (i : Nat) => ⟨[(3, .ref 3 0), (9, .sl fl 1 (level.map fun x => sV x)), (10, .sl false 1 (met2.map fun x => sV x)), (11, .sl (endsR l cuts (level.take i)).isEmpty 1 ((endsR l cuts (level.take i)).map fun x => sV x)), (15, iV i)], [(3, .box (Vw.cells ⟨nl, l, nr, rf, ng, lg, nc, cuts⟩))]⟩) (fun (i : Nat) => i ≤ level.length) (fun (i : Nat) => level.length - i) (0) (by first | omega | (simp; done)) Weak.kp ?_
   intro i hi
   refine Trip.seq (Trip.sr tblOk ?_)
   apply Trip.cond (.tmp rfl)
   ·intro h4
    have h4 : i < level.length := by simp at h4; omega
    have c4 := c4 level[i]!
    have hst := ends_snoc l cuts level h4
    have hl1 : (endsR l cuts (level.take i)).length ≤ level.length := by
     have := sortS_le ((level.take i).filter fun x => !(rdP l cuts x).isEmpty)
     have h5 := List.length_filter_le (fun x => !(rdP l cuts x).isEmpty) (level.take i)
     rw [List.length_take] at h5
     rw [endsR]; omega
    have hea : asc (endsR l cuts (level.take i)) := by rw [endsR]; exact sortS_asc _
    have c5 := cAdd06 (endsR l cuts (level.take i)).isEmpty (endsR l cuts (level.take i)) level[i]! hea (by omega)
    have hine := insS_ne (endsR l cuts (level.take i)) level[i]!
    have hpl := rdP_len l cuts level[i]! hb
    generalize hs2 : endsR l cuts (level.take (i + 1)) = s2 at *
    generalize endsR l cuts (level.take i) = s1 at *
    generalize insS s1 level[i]! = s3 at *
    generalize rdP l cuts level[i]! = ps at *
    generalize rdE l level[i]! = ee at *
    refine Trip.skip ?_
    refine Trip.seqk ⟨[(3, .ref 3 0), (9, .sl fl 1 (level.map fun x => sV x)), (10, .sl false 1 (met2.map fun x => sV x)), (11, .sl s2.isEmpty 1 (s2.map fun x => sV x)), (15, iV i)], [(3, .box (Vw.cells ⟨nl, l, nr, rf, ng, lg, nc, cuts⟩))]⟩ ?_ ?_
    ·refine Trip.block (Trip.sD tblOk mixed (by repeat' (first | exact rfl | (apply Rule.sem; intro hγ; with_reducible apply F_call0 (x := .func 32) (B := []) hγ (hspec := c4)) | exact idx_map _ _ _ (by show _ < _; first | omega | (simp only [List.length_map] at *; omega)) | ((with_reducible refine Side.mk ?_); first | exact .inl rfl | (simp only [ln]; first | done | omega)) | constructor)) ?_)
     refine Trip.sr tblOk ?_
     apply Trip.cond (.tmp rfl)
     ·intro h6
      have h6 : ¬ ps.isEmpty = true := fun e => by rw [List.isEmpty_iff] at e; subst e; simp at h6
      rw [if_neg h6] at hst
      subst hst
      rw [hine]
      refine Trip.R tblOk (by repeat' (first | exact rfl | (apply Rule.sem; intro hγ; with_reducible apply F_call0 (x := .func 33) (B := []) hγ (hspec := c5)) | exact idx_map _ _ _ (by show _ < _; first | omega | (simp only [List.length_map] at *; omega)) | ((with_reducible refine Side.mk ?_); first | exact .inl rfl | (simp only [ln]; first | done | omega)) | constructor)) ?_
      exact Weak.kp
     ·intro h6
      have h6 : ps.isEmpty = true := by rw [List.isEmpty_iff]; simpa using h6
      rw [if_pos h6] at hst
      subst hst
      refine Trip.skip ?_
      exact Weak.kp
    refine Trip.R tblOk (by repeat' (first | exact rfl | ((with_reducible refine Side.mk ?_); omega) | constructor)) ?_
    exact ⟨i + 1, by first | omega | (dsimp only at *; omega), by first | omega | (dsimp only at *; omega), Weak.kp (ht := by repeat' (first | exact rfl | (rw [hs2]; rfl) | constructor))⟩
   intro h4
   have h4 : i = level.length := by simp at h4; omega
   subst h4
   rw [List.take_length]
   refine Trip.exit ?_
   dsimp only
   rw [hne2]
   refine Trip.sr tblOk ?_
   refine Trip.ret (rt3 [])
  intro h3
  have h3 : ¬ k = m := by simp at h3; omega
  rw [if_neg (by omega), show m - k = m - (k + 1) + 1 by omega] at hdep
  refine Trip.skip (Trip.r tblOk ?_)
  refine Trip.R tblOk (by repeat' (first | exact rfl | ((with_reducible refine Side.mk ?_); omega) | constructor)) ?_
  exact ⟨(k + 1, nx.isEmpty, nx, met2), by exact ⟨by omega, by omega, hdep, hasc2, by dsimp only; omega, hnm, hmm2⟩, by first | omega | (dsimp only at *; omega), Weak.kp (ht := by repeat' (first | exact rfl | (rw [hne2]; rfl) | constructor))⟩
 intro h
 have h : level = [] := by
  have : level.length = 0 := by simp at h; simp [h]
  exact List.length_eq_zero_iff.1 this
 rw [depR_none2 l cuts _ h] at hdep
 subst hdep
 refine Trip.exit (Trip.sr tblOk ?_)
 refine Trip.ret (rt3 [])
end Go.Proofs.Tryz
