/- A part of the proof: Sb, SymZI. -/
import Derived.Test.YtbnnmnbidkpmcaaGreatDoorPart43
set_option linter.unusedVariables false
set_option linter.unusedSimpArgs false
namespace Go.Proofs.Tryz
open Go Go.Sym Go.Graft
set_option maxRecDepth 20000
theorem cKept (nl : Bool) (l : List It) (f : Nat) (caps : List PV) (hp : plainL caps = true) (q : Str → Bool) (hs : l.length ≤ 1000000000) (hq : ∀ x, Ctr prog f (sV x :: caps) [] (bV (q x)) [] []) : Ctr prog 53 [stPV nl l, .clo (.func f) [] caps] [] (stPV (l.filter fun x => q x.id).isEmpty (l.filter fun x => q x.id)) [] [] := by
  generalize hQ : (fun x : It => q x.id) = Q
  refine Ctr.enter tblOk func53 rfl (by decide) rfl (nt := 26) rfl rfl rfl rfl ?_
  refine Trip.seq ?_
  apply Trip.reg tblOk
  · repeat' (first | exact rfl | constructor)
  · exact rfl
  refine Trip.seq ?_
  apply Trip.reg tblOk
  · repeat' constructor
  · exact rfl
  refine Trip.seq ?_
  refine Trip.seq ?_
  apply Trip.reg tblOk
  · repeat' (first | exact rfl | constructor)
  · exact rfl
  refine Trip.block ?_
  apply Trip.loop (fun (i : Nat) => ⟨[(1, .clo (.func f) [] caps), (4, .ref 4 0), (5, .osl 900 0 (filtN Q l i).length (filtN Q l i).length), (9, .sl nl 3 (l.map It.pv)), (10, iV l.length), (11, iV i)], [(900, .arr 3 (filtN Q l i).isEmpty ((filtN Q l i).map It.pv)), (4, .box [nilS])]⟩) (fun (i : Nat) => i ≤ l.length) (fun (i : Nat) => l.length - i) (0)
  · first | omega | (simp; done)
  · refine Weak.trans (S2 := ⟨[(1, .clo (.func f) [] caps), (4, .ref 4 0), (5, nilS), (9, .sl nl 3 (l.map It.pv)), (10, iV l.length), (11, iV 0)], [(4, .box [nilS])]⟩) ?_ ?_
    · apply Weak.keep
      · exact rfl
      · repeat' (first | exact rfl | (refine vI ?_; first | omega | (simp; done) | (simp; omega) | (simp only [List.length_map] at *; omega)) | constructor)
      · repeat' (first | exact rfl | constructor)
      · (show (usesOnlyL _ _ && _) = true; rw [usesOnlyL_plain (by assumption)]; rfl)
      · repeat' (first | exact rfl | constructor)
    · exact Weak.adopt 900 3 rfl rfl (by repeat' (first | exact rfl | constructor)) (by repeat' (first | exact rfl | constructor))
  intro i hi
  have hfs := filtN_succ Q l i
  have hfl := filtN_le Q l i
  refine Trip.seq ?_
  apply Trip.reg tblOk
  · repeat' (first | exact rfl | constructor)
  · exact rfl
  refine Trip.seq ?_
  apply Trip.cond (.tmp rfl)
  · intro h
    have h : i < l.length := by simp at h; omega
    have hfs := hfs h
    have c := hq l[i]!.id
    have hqi : Q l[i]! = q l[i]!.id := by rw [← hQ]
    generalize q l[i]!.id = pl at *
    generalize hF : filtN Q l (i + 1) = F' at *
    generalize filtN Q l i = F at *
    refine Trip.skip ?_
    refine Trip.seqk ⟨[(1, .clo (.func f) [] caps), (4, .ref 4 0), (5, .osl 900 0 F'.length F'.length), (9, .sl nl 3 (l.map It.pv)), (10, iV l.length), (11, iV i)], [(900, .arr 3 F'.isEmpty (F'.map It.pv)), (4, .box [nilS])]⟩ ?_ ?_
    · refine Trip.block ?_
      refine Trip.seq ?_
      apply Trip.reg tblOk
      · repeat' (first | exact rfl | exact idx_map _ _ _ (by show _ < _; first | omega | (simp only [List.length_map] at *; omega)) | ((with_reducible refine Side.mk ?_); (simp only [ln]; first | done | omega)) | constructor)
      · exact rfl
      refine Trip.seq ?_
      apply Trip.reg tblOk
      · repeat' (first | exact rfl | (apply Rule.sem; intro hγ; with_reducible apply F_call0 (x := .tmp 15) (B := []) hγ (hspec := c)) | exact convL_plain (by assumption) | ((with_reducible refine Side.mk ?_); exact .inl rfl) | constructor)
      · exact rfl
      apply Trip.cond (.tmp rfl)
      · intro h2
        have h2 : Q l[i]! = true := by rw [hqi]; exact h2
        rw [if_pos h2] at hfs
        subst hfs
        apply Trip.reg tblOk
        · repeat' (first | exact rfl | ((with_reducible refine Side.mk ?_); (simp only [ln]; first | done | omega)) | constructor)
        · exact rfl
        apply Weak.keep
        · exact rfl
        · repeat' (first | exact rfl | (refine Side.mk (oslE ?_ ?_) <;> (simp only [ln]; first | done | omega)) | constructor)
        · repeat' (first | exact rfl | exact arrF (by simp) (by simp) | constructor)
        · (show (usesOnlyL _ _ && _) = true; rw [usesOnlyL_plain (by assumption)]; rfl)
        · repeat' (first | exact rfl | exact plainL_map _ (fun _ => rfl) _ | constructor)
      intro h2
      have h2 : ¬ Q l[i]! = true := by rw [hqi, h2]; simp
      rw [if_neg h2] at hfs
      subst hfs
      refine Trip.skip ?_
      apply Weak.keep
      · exact rfl
      · repeat' (first | exact rfl | constructor)
      · repeat' (first | exact rfl | constructor)
      · (show (usesOnlyL _ _ && _) = true; rw [usesOnlyL_plain (by assumption)]; rfl)
      · repeat' (first | exact rfl | exact plainL_map _ (fun _ => rfl) _ | constructor)
    apply Trip.reg tblOk
    · repeat' (first | exact rfl | ((with_reducible refine Side.mk ?_); omega) | constructor)
    · exact rfl
    refine ⟨i + 1, ?_, ?_, ?_⟩
    · first | omega | (dsimp only at *; omega)
    · first | omega | (dsimp only at *; omega)
    · apply Weak.keep
      · exact rfl
      · repeat' (first | exact rfl | (rw [hF]; rfl) | constructor)
      · repeat' (first | exact rfl | (rw [hF]; rfl) | constructor)
      · (show (usesOnlyL _ _ && _) = true; rw [usesOnlyL_plain (by assumption)]; rfl)
      · repeat' (first | exact rfl | exact plainL_map _ (fun _ => rfl) _ | constructor)
  intro h
  have h : i = l.length := by simp at h; omega
  subst h
  rw [filtN_all]
  generalize l.filter Q = F at *
  refine Trip.exit ?_
  refine Trip.seq ?_
  apply Trip.reg tblOk
  · repeat' (first | exact rfl | constructor)
  · exact rfl
  refine Trip.ret ?_
  apply Ret1 [900]
  · repeat' (first | exact rfl | constructor)
  · exact rfl
  · repeat' (first | exact rfl | exact plainL_map _ (fun _ => rfl) _ | (refine Side.mk ?_; simp only [ln]; first | done | omega) | constructor)
theorem cLessFn (nb : Bool) (b : List It) (hb : b.length ≤ 1000000000) (x : Str) : Ctr prog 65 [sV x, .rp [.sl nb 3 (b.map It.pv)]] [] (bV (!placed b x)) [] [] := by
  have c := cHas nb b x hb
  generalize placed b x = p at *
  refine Ctr.enter tblOk func65 rfl (by decide) rfl (nt := 8) rfl rfl rfl rfl ?_
  refine Trip.seq ?_
  apply Trip.reg tblOk
  · repeat' constructor
  · exact rfl
  refine Trip.seq ?_
  apply Trip.reg tblOk
  · repeat' (first | exact rfl | (apply Rule.sem; intro hγ; with_reducible apply F_call0 (x := .func 22) (B := []) hγ (hspec := c)) | ((with_reducible refine Side.mk ?_); exact .inl rfl) | constructor)
  · exact rfl
  refine Trip.ret ?_
  apply Ret1 []
  · repeat' (first | exact rfl | constructor)
  · exact rfl
  · repeat' (exact cvB (by simp only [List.length_map]))
theorem cLessP (na nb : Bool) (a b : List It) (ha : a.length ≤ 1000000000) (hb : b.length ≤ 1000000000) : Ctr prog 35 [stPV na a, stPV nb b] [] (stPV (a.filter fun x => !placed b x.id).isEmpty (a.filter fun x => !placed b x.id)) [] [] := by
  have c := cKept na a 65 [.rp [.sl nb 3 (b.map It.pv)]] rfl (fun x => !placed b x) ha (cLessFn nb b hb)
  generalize (a.filter fun x => !placed b x.id) = F at *
  refine Ctr.enter tblOk func35 rfl (by decide) rfl (nt := 8) rfl rfl rfl rfl ?_
  refine Trip.seq ?_
  apply Trip.reg tblOk
  · repeat' (first | exact rfl | constructor)
  · exact rfl
  apply Trip.weak (S' := ⟨[(2, .ref 2 0), (3, .rp [.sl nb 3 (b.map It.pv)]), (4, .ref 4 0)], [(2, .box [.sl na 3 (a.map It.pv)]), (4, .box [nilS])]⟩)
  · refine Weak.trans (S2 := ⟨[(2, .ref 2 0), (3, .ref 3 0), (4, .ref 4 0)], [(2, .box [.sl na 3 (a.map It.pv)]), (3, .box [.sl nb 3 (b.map It.pv)]), (4, .box [nilS])]⟩) ?_ ?_
    · apply Weak.keep
      · exact rfl
      · repeat' (first | exact rfl | constructor)
      · repeat' (first | exact rfl | constructor)
      · exact rfl
      · repeat' (first | exact rfl | constructor)
    · refine Weak.turn [3] rfl rfl ?_ ?_
      · repeat' (first | exact rfl | constructor)
      · repeat' (first | exact rfl | constructor)
  refine Trip.seq ?_
  apply Trip.reg tblOk
  · repeat' (first | exact rfl | (apply Rule.sem; intro hγ; with_reducible apply F_call0 (x := .func 53) (B := []) hγ (hspec := c)) | ((with_reducible refine Side.mk ?_); exact .inl rfl) | constructor)
  · exact rfl
  refine Trip.ret ?_
  apply Ret1 []
  · repeat' (first | exact rfl | constructor)
  · exact rfl
  · repeat' constructor
theorem cOnlyFn (ks : List Str) (bs : List Bool) (hl : ks.length = bs.length) (x : Str) : Ctr prog 54 [sV x, .rp [.mp false (ks.map strK) (bs.map fun b => bV b)]] [] (bV (mval ks bs false x)) [] [] := by
  refine Ctr.enter tblOk func54 rfl (by decide) rfl (nt := 7) rfl rfl rfl rfl ?_
  refine Trip.seq ?_
  apply Trip.reg tblOk
  · repeat' constructor
  · exact rfl
  refine Trip.seq ?_
  apply Trip.reg tblOk
  · repeat' (first | exact rfl | (apply Rule.sem; intro hγ; with_reducible apply F_lookup (K := strK) (f := bV) (z := false) (zv := .bool false) tblOk hγ (hz := zBool) (hzf := fun _ _ _ => .v _ _)) | exact KeyLaw.str tblOk rfl rfl | ((with_reducible refine Side.mk ?_); omega) | constructor)
  · exact rfl
  refine Trip.ret ?_
  apply Ret1 []
  · repeat' (first | exact rfl | constructor)
  · exact rfl
  · repeat' (exact cvB (by simp only [List.length_map]))
theorem cOnlyP (nl ni : Bool) (l : List It) (ids : List Str) (hs : l.length ≤ 1000000000) (hi : ids.length ≤ 1000000000) : Ctr prog 23 [stPV nl l, .sl ni 1 (ids.map fun x => sV x)] [] (stPV (l.filter fun x => hasS ids x.id).isEmpty (l.filter fun x => hasS ids x.id)) [] [] := by
  have hlen := seenN_len ids
  have hend := fun x => seenN_val ids x ids.length (Nat.le_refl _)
  rw [List.take_length] at hend
  have c := cKept nl l 54 [.rp [.mp false ((seenN ids ids.length).1.map strK) ((seenN ids ids.length).2.map fun b => bV b)]] rfl (hasS ids) hs (fun x => by rw [← hend x]; exact cOnlyFn _ _ (hlen _) x)
  generalize (l.filter fun x => hasS ids x.id) = F at *
  refine Ctr.enter tblOk func23 rfl (by decide) rfl (nt := 21) rfl rfl rfl rfl ?_
  refine Trip.seq ?_
  apply Trip.reg tblOk
  · repeat' (first | exact rfl | constructor)
  · exact rfl
  refine Trip.seq ?_
  apply Trip.reg tblOk
  · repeat' (first | exact rfl | (apply Rule.sem; intro hγ; with_reducible apply F_makeMap) | constructor)
  · exact rfl
  refine Trip.seq ?_
  refine Trip.seq ?_
  apply Trip.reg tblOk
  · repeat' (first | exact rfl | constructor)
  · exact rfl
  refine Trip.block ?_
  apply Trip.loop (fun (i : Nat) => ⟨[(2, .ref 2 0), (4, .ref 4 0), (5, .ref 5 0), (9, .sl ni 1 (ids.map fun x => sV x)), (10, iV ids.length), (11, iV i)], [(2, .box [.sl nl 3 (l.map It.pv)]), (4, .box [nilS]), (5, .box [.mref 8]), (8, .map ((seenN ids i).1.map strK) ((seenN ids i).2.map fun b => bV b))]⟩) (fun (i : Nat) => i ≤ ids.length) (fun (i : Nat) => ids.length - i) (0)
  · first | omega | (simp; done)
  · apply Weak.keep
    · exact rfl
    · repeat' (first | exact rfl | (refine vI ?_; first | omega | (simp; done) | (simp; omega) | (simp only [List.length_map] at *; omega)) | constructor)
    · repeat' (first | exact rfl | constructor)
    · exact rfl
    · repeat' (first | exact rfl | constructor)
  intro i hi2
  refine Trip.seq ?_
  apply Trip.reg tblOk
  · repeat' (first | exact rfl | constructor)
  · exact rfl
  refine Trip.seq ?_
  apply Trip.cond (.tmp rfl)
  · intro h
    have h : i < ids.length := by simp at h; omega
    have hlen := hlen i
    have hstep : seenN ids (i + 1) = (mkeys (seenN ids i).1 ids[i]!, mset (seenN ids i).1 (seenN ids i).2 ids[i]! true) := rfl
    clear c hend
    generalize hq2 : seenN ids (i + 1) = q2 at *
    generalize seenN ids i = q at *
    obtain ⟨ks, bs⟩ := q
    subst hstep
    dsimp only at *
    refine Trip.skip ?_
    refine Trip.seq ?_
    refine Trip.block ?_
    refine Trip.seq ?_
    apply Trip.reg tblOk
    · repeat' (first | exact rfl | exact idx_map _ _ _ (by show _ < _; first | omega | (simp only [List.length_map] at *; omega)) | ((with_reducible refine Side.mk ?_); (simp only [ln]; first | done | omega)) | constructor)
    · exact rfl
    apply Trip.reg tblOk
    · repeat' (first | exact rfl | (apply Rule.sem; intro hγ; with_reducible apply F_mapUpdate (K := strK) (f := bV) tblOk hγ) | exact KeyLaw.str tblOk rfl rfl | ((with_reducible refine Side.mk ?_); omega) | constructor)
    · exact rfl
    apply Trip.reg tblOk
    · repeat' (first | exact rfl | ((with_reducible refine Side.mk ?_); omega) | constructor)
    · exact rfl
    refine ⟨i + 1, ?_, ?_, ?_⟩
    · first | omega | (dsimp only at *; omega)
    · first | omega | (dsimp only at *; omega)
    · apply Weak.keep
      · exact rfl
      · repeat' (first | exact rfl | constructor)
      · repeat' (first | exact rfl | (rw [hq2]; rfl) | constructor)
      · exact rfl
      · repeat' (first | exact rfl | exact plainL_map _ (fun _ => rfl) _ | constructor)
  intro h
  have h : i = ids.length := by simp at h; omega
  subst h
  refine Trip.exit ?_
  generalize seenN ids ids.length = q at *
  obtain ⟨ks, bs⟩ := q
  dsimp only at *
  apply Trip.weak (S' := ⟨[(2, .ref 2 0), (4, .ref 4 0), (5, .rp [.mp false (ks.map strK) (bs.map fun b => bV b)])], [(2, .box [.sl nl 3 (l.map It.pv)]), (4, .box [nilS])]⟩)
  · refine Weak.trans (S2 := ⟨[(2, .ref 2 0), (4, .ref 4 0), (5, .ref 5 0)], [(2, .box [.sl nl 3 (l.map It.pv)]), (4, .box [nilS]), (5, .box [.mref 8]), (8, .map (ks.map strK) (bs.map fun b => bV b))]⟩) ?_ (Weak.trans (S2 := ⟨[(2, .ref 2 0), (4, .ref 4 0), (5, .ref 5 0)], [(2, .box [.sl nl 3 (l.map It.pv)]), (4, .box [nilS]), (5, .box [.mp false (ks.map strK) (bs.map fun b => bV b)])]⟩) ?_ ?_)
    · apply Weak.keep
      · exact rfl
      · repeat' (first | exact rfl | constructor)
      · repeat' (first | exact rfl | constructor)
      · exact rfl
      · repeat' (first | exact rfl | exact plainL_map _ (fun _ => rfl) _ | constructor)
    · refine Weak.turn [8] rfl rfl ?_ ?_
      · repeat' (first | exact rfl | constructor)
      · repeat' (first | exact rfl | exact plainL_map _ (fun _ => rfl) _ | constructor)
    · refine Weak.turn [5] rfl rfl ?_ ?_
      · repeat' (first | exact rfl | constructor)
      · repeat' (first | exact rfl | constructor)
  refine Trip.seq ?_
  apply Trip.reg tblOk
  · repeat' (first | exact rfl | (apply Rule.sem; intro hγ; with_reducible apply F_call0 (x := .func 53) (B := []) hγ (hspec := c)) | ((with_reducible refine Side.mk ?_); exact .inl rfl) | constructor)
  · exact rfl
  refine Trip.ret ?_
  apply Ret1 []
  · repeat' (first | exact rfl | constructor)
  · exact rfl
  · repeat' constructor
theorem cOnly17 (nl ni : Bool) (l : List It) (ids : List Str) (hs : l.length ≤ 1000000000) (hi : ids.length ≤ 100000000) : Ctr prog 24 [stPV nl l, .sl ni 1 (ids.map fun x => sV x)] [] (stPV (l.filter fun x => hasS ids x.id).isEmpty (l.filter fun x => hasS ids x.id)) [] [] := by
  have c1 := cSorted17 ni ids hi
  have hsl : (sortS ids).length ≤ ids.length := sortN_len ids _
  have c2 := fun x => cHolds (decide (ids.length = 0)) (sortS ids) x (by omega)
  have hh : ∀ x, holdsS (sortS ids) x = hasS ids x := fun x => by
    rw [← holds_sort, holdsP, holdsS]
    have : decide (spot (sortS ids) x < (sortS ids).length) = decide (((spot (sortS ids) x : Nat) : Int) < ((sortS ids).length : Int)) := decide_eq_decide.2 (by omega)
    rw [this]; rfl
  generalize sortS ids = S at *
  generalize hQ : (fun x : It => hasS ids x.id) = Q
  refine Ctr.enter tblOk func24 rfl (by decide) rfl (nt := 35) rfl rfl rfl rfl ?_
  refine Trip.seq ?_
  apply Trip.reg tblOk
  · repeat' (first | exact rfl | constructor)
  · exact rfl
  refine Trip.seq ?_
  apply Trip.reg tblOk
  · repeat' (first | exact rfl | (apply Rule.sem; intro hγ; with_reducible apply F_call0 (x := .func 55) (B := []) hγ (hspec := c1)) | ((with_reducible refine Side.mk ?_); exact .inl rfl) | constructor)
  · exact rfl
  refine Trip.seq ?_
  apply Trip.reg tblOk
  · repeat' constructor
  · exact rfl
  refine Trip.seq ?_
  refine Trip.seq ?_
  apply Trip.reg tblOk
  · repeat' constructor
  · exact rfl
  refine Trip.block ?_
  apply Trip.loop (fun (i : Nat) => ⟨[(2, .ref 2 0), (4, .ref 4 0), (5, .sl (decide (ids.length = 0)) 1 (S.map fun x => sV x)), (6, .osl 900 0 (filtN Q l i).length (filtN Q l i).length), (7, iV i)], [(900, .arr 3 (filtN Q l i).isEmpty ((filtN Q l i).map It.pv)), (2, .box [.sl nl 3 (l.map It.pv)]), (4, .box [nilS])]⟩) (fun (i : Nat) => i ≤ l.length) (fun (i : Nat) => l.length - i) (0)
  · first | omega | (simp; done)
  · refine Weak.trans (S2 := ⟨[(2, .ref 2 0), (4, .ref 4 0), (5, .sl (decide (ids.length = 0)) 1 (S.map fun x => sV x)), (6, nilS), (7, iV 0)], [(2, .box [.sl nl 3 (l.map It.pv)]), (4, .box [nilS])]⟩) ?_ ?_
    · apply Weak.keep
      · exact rfl
      · repeat' (first | exact rfl | constructor)
      · repeat' (first | exact rfl | constructor)
      · exact rfl
      · repeat' (first | exact rfl | constructor)
    · exact Weak.adopt 900 3 rfl rfl (by repeat' (first | exact rfl | constructor)) (by repeat' (first | exact rfl | constructor))
  intro i hi2
  have hfs := filtN_succ Q l i
  have hfl := filtN_le Q l i
  refine Trip.seq ?_
  refine Trip.seq ?_
  apply Trip.reg tblOk
  · repeat' (first | exact rfl | constructor)
  · exact rfl
  apply Trip.cond (.tmp rfl)
  · intro h
    have h : i < l.length := by simp at h; omega
    have hfs := hfs h
    have c := c2 l[i]!.id
    rw [hh] at c
    have hqi : Q l[i]! = hasS ids l[i]!.id := by rw [← hQ]
    generalize hasS ids l[i]!.id = pl at *
    generalize hF : filtN Q l (i + 1) = F' at *
    generalize filtN Q l i = F at *
    refine Trip.skip ?_
    refine Trip.seqk ⟨[(2, .ref 2 0), (4, .ref 4 0), (5, .sl (decide (ids.length = 0)) 1 (S.map fun x => sV x)), (6, .osl 900 0 F'.length F'.length), (7, iV i)], [(900, .arr 3 F'.isEmpty (F'.map It.pv)), (2, .box [.sl nl 3 (l.map It.pv)]), (4, .box [nilS])]⟩ ?_ ?_
    · refine Trip.block ?_
      refine Trip.seq ?_
      apply Trip.reg tblOk
      · repeat' (first | exact rfl | (apply Rule.sem; intro hγ; with_reducible apply F_call0 (x := .func 32) (B := []) hγ (hspec := c)) | exact idx_map _ _ _ (by show _ < _; first | omega | (simp only [List.length_map] at *; omega)) | ((with_reducible refine Side.mk ?_); first | exact .inl rfl | (simp only [ln]; first | done | omega)) | constructor)
      · exact rfl
      apply Trip.cond (.tmp rfl)
      · intro h2
        have h2 : Q l[i]! = true := by rw [hqi]; exact h2
        rw [if_pos h2] at hfs
        subst hfs
        apply Trip.reg tblOk
        · repeat' (first | exact rfl | exact idx_map _ _ _ (by show _ < _; first | omega | (simp only [List.length_map] at *; omega)) | ((with_reducible refine Side.mk ?_); (simp only [ln]; first | done | omega)) | constructor)
        · exact rfl
        apply Weak.keep
        · exact rfl
        · repeat' (first | exact rfl | (refine Side.mk (oslE ?_ ?_) <;> (simp only [ln]; first | done | omega)) | constructor)
        · repeat' (first | exact rfl | exact arrF (by simp) (by simp) | constructor)
        · exact rfl
        · repeat' (first | exact rfl | exact plainL_map _ (fun _ => rfl) _ | constructor)
      intro h2
      have h2 : ¬ Q l[i]! = true := by rw [hqi, h2]; simp
      rw [if_neg h2] at hfs
      subst hfs
      refine Trip.skip ?_
      apply Weak.keep
      · exact rfl
      · repeat' (first | exact rfl | constructor)
      · repeat' (first | exact rfl | constructor)
      · exact rfl
      · repeat' (first | exact rfl | exact plainL_map _ (fun _ => rfl) _ | constructor)
    apply Trip.reg tblOk
    · repeat' (first | exact rfl | ((with_reducible refine Side.mk ?_); omega) | constructor)
    · exact rfl
    refine ⟨i + 1, ?_, ?_, ?_⟩
    · first | omega | (dsimp only at *; omega)
    · first | omega | (dsimp only at *; omega)
    · apply Weak.keep
      · exact rfl
      · repeat' (first | exact rfl | (rw [hF]; rfl) | constructor)
      · repeat' (first | exact rfl | (rw [hF]; rfl) | constructor)
      · exact rfl
      · repeat' (first | exact rfl | exact plainL_map _ (fun _ => rfl) _ | constructor)
  intro h
  have h : i = l.length := by simp at h; omega
  subst h
  rw [filtN_all]
  generalize l.filter Q = F at *
  refine Trip.exit ?_
  refine Trip.seq ?_
  apply Trip.reg tblOk
  · repeat' (first | exact rfl | constructor)
  · exact rfl
  refine Trip.ret ?_
  apply Ret1 [900]
  · repeat' (first | exact rfl | constructor)
  · exact rfl
  · repeat' (first | exact rfl | exact plainL_map _ (fun _ => rfl) _ | (refine Side.mk ?_; simp only [ln]; first | done | omega) | constructor)
end Go.Proofs.Tryz
namespace Go.Sym
open Go.RowKit
@[reducible] def noGo (Q : Exit → St → Prop) : Exit → St → Prop
  | .goto _, _ => False
  | e, S => Q e S
theorem Trip.scope {P : Program} [Globs P] {nt : Nat} {S : St} {Q : Exit → St → Prop} {c : Code} (h : Trip P nt S c (noGo Q)) : Trip P nt S (.scope c) Q := by
  intro fr hnt hG L a w hR
  refine wp_scope_straight (wp_mono (h fr hnt hG L a w hR) ?_)
  rintro e a' w' ⟨S', L', h1, h2⟩
  cases e with
  | goto l => exact h2.elim
  | _ => exact ⟨S', L', h1, h2⟩
inductive ShrT (S : St) (σ : List (Nat × Nat)) (o m n : Nat) : List (Nat × PV) → Prop
  | nil : ShrT S σ o m n []
  | osl {t : Nat} {r : List (Nat × PV)} : S.get t = some (.osl o 0 m n) → ShrT S σ o m n r → ShrT S σ o m n ((t, .osl o 0 m m) :: r)
  | mref {t k : Nat} {r : List (Nat × PV)} : S.get t = some (.mref k) → look σ k = some k → ShrT S σ o m n r → ShrT S σ o m n ((t, .mref k) :: r)
  | cons {t : Nat} {p q : PV} {r : List (Nat × PV)} : S.get t = some q → ConvP S σ [] q p → ShrT S σ o m n r → ShrT S σ o m n ((t, p) :: r)
theorem ShrT.get {S : St} {σ : List (Nat × Nat)} {o m n : Nat} : ∀ {l : List (Nat × PV)}, ShrT S σ o m n l → ∀ t p, (t, p) ∈ l → ∃ q, S.get t = some q ∧ ((q = .osl o 0 m n ∧ p = .osl o 0 m m) ∨ (∃ k, q = .mref k ∧ p = .mref k ∧ look σ k = some k) ∨ ConvP S σ [] q p)
  | _, .nil, t, p, h => by simp at h
  | _, .osl h1 h3, t, p, h => by
    rcases List.mem_cons.1 h with h | h
    · cases h; exact ⟨_, h1, .inl ⟨rfl, rfl⟩⟩
    · exact h3.get t p h
  | _, .mref h1 h2 h3, t, p, h => by
    rcases List.mem_cons.1 h with h | h
    · cases h; exact ⟨_, h1, .inr (.inl ⟨_, rfl, rfl, h2⟩)⟩
    · exact h3.get t p h
  | _, .cons h1 h2 h3, t, p, h => by
    rcases List.mem_cons.1 h with h | h
    · cases h; exact ⟨_, h1, .inr (.inr h2)⟩
    · exact h3.get t p h
section
variable {S : St}
theorem Weak.shrink {nt : Nat} (o sz m : Nat) {nl : Bool} {es : List PV} {t' : List (Nat × PV)} {o' : List (Nat × SObj)} (hobj : S.obj o = some (.arr sz nl es)) (hm : Side (m ≤ es.length)) (hes : Side (plainL (es.take m) = true)) (hpn : Nat.blt o PN = true)
    (hp : S.o.all (fun x => Nat.blt x.1 PN || Nat.beq x.1 o || (o'.map (·.1)).contains x.1) = true) (hno : (o'.map (·.1)).contains o = false)
    (ht : ShrT S (idσ (o'.map (·.1))) o m es.length t') (ho : TurnO S (idσ (o'.map (·.1))) [] o') : Weak nt S ⟨t', (o, .arr sz nl (es.take m)) :: o'⟩ := by
  intro fr hnt L a w hR
  have hM := hR.mem
  have hm' : m ≤ es.length := hm
  have htk : (es.take m).length = m := by rw [List.length_take]; omega
  obtain ⟨base, cap, hl0, hcap, hnil, hlen, hcells⟩ := hR.arr hobj
  let ns := o'.map (·.1)
  let l1 : Loc := .arr base m cap sz
  let L' : LMap := fun n => if n = o then some l1 else if ns.contains n then L n else none
  have hLo : L' o = some l1 := by simp [L']
  have hL : ∀ n, ns.contains n = true → ∀ l, L n = some l → L' n = some l := fun n hn l hl => by
    have hne : n ≠ o := by rintro rfl; rw [show ns.contains n = false from hno] at hn; simp at hn
    simp only [L', if_neg hne, hn, if_true]; exact hl
  have hL2 : ∀ n l, L' n = some l → (n = o ∧ l = l1) ∨ (n ≠ o ∧ L n = some l ∧ ns.contains n = true) := fun n l h => by
    simp only [L'] at h
    split at h
    · rename_i e; simp at h; exact .inl ⟨e, h.symm⟩
    · rename_i e
      split at h
      · rename_i hc; exact .inr ⟨e, h, hc⟩
      · simp at h
  have hblk : l1.blk = (Loc.arr base es.length cap sz).blk := by cases base <;> rfl
  have hrng : l1.range = (Loc.arr base es.length cap sz).range := by cases base <;> rfl
  have hL3 : ∀ n l b, L' n = some l → l.blk = some b → ∃ l0, L n = some l0 ∧ l0.blk = some b := fun n l b h hb => by
    rcases hL2 n l h with ⟨rfl, rfl⟩ | ⟨_, h1, _⟩
    · exact ⟨_, hl0, hblk ▸ hb⟩
    · exact ⟨_, h1, hb⟩
  have hF : ∀ b, ¬ fr.F L b → ¬ fr.F L' b := fun b hn h => by
    rcases h with h | ⟨n, l, h1, h2⟩
    · exact hn (.inl h)
    · obtain ⟨l0, k1, k2⟩ := hL3 n l b h1 h2
      exact hn (.inr ⟨n, l0, k1, k2⟩)
  have hσ : ∀ x y, look (idσ ns) x = some y → ∀ l, L x = some l → L' y = some l := fun x y h l hl => by
    obtain ⟨rfl, h2⟩ := look_idσ h
    exact hL _ (by simpa using h2) l hl
  have hcv := conv_rep_all (L' := L') (F' := fr.F L') hM (σ := idσ ns) (B := []) hF (fun o h => by simp at h) hσ
  have hcv1 := fun {p q} h x => @hcv.1 p q h x
  have hcvL : ∀ {cs ds : List PV}, ConvL S (idσ ns) [] cs ds → ∀ b off, CellsAt w (fr.F L) L cs b off → CellsAt w (fr.F L') L' ds b off := by
    intro cs ds h
    induction ds generalizing cs with
    | nil => intro b off _ j c hj; simp at hj
    | cons d ds ih =>
      cases h with
      | cons g1 g2 =>
        intro b off hc j c hj
        cases j with
        | zero =>
          simp at hj; subst hj
          obtain ⟨x, k1, k2, k3⟩ := hc 0 _ rfl
          exact ⟨x, k1, k2, hcv1 g1 x k3⟩
        | succ j =>
          obtain ⟨x, k1, k2, k3⟩ := ih g2 b (off + 1) (fun j' c' hj' => by
            obtain ⟨y, m1, m2, m3⟩ := hc (j' + 1) c' (by simpa using hj')
            exact ⟨y, by rw [show off + 1 + j' = off + (j' + 1) by omega]; exact m1, by rw [show off + 1 + j' = off + (j' + 1) by omega]; exact m2, m3⟩) j c (by simpa using hj)
          exact ⟨x, by rw [show off + (j + 1) = off + 1 + j by omega]; exact k1, by rw [show off + (j + 1) = off + 1 + j by omega]; exact k2, k3⟩
  have hlift : ∀ {c : PV} {x : Value}, plain c = true → Rep w (fr.F L) L c x → Rep w (fr.F L') L' c x := fun hc hx =>
    (hx.plain hc L').mono (fun b s hx hn => ⟨hx, hF b hn⟩) (LExt.refl _)
  refine ⟨L', ⟨fun n ob hn => ?_, fun n l hn => ?_, fun n n' l l' b hn hn' hb hb' => ?_, fun n l b hn hb => ?_, fun n l b hn hb => ?_, hM.parLt, hM.xLt, hM.frame, fun n l h => ?_⟩, hR.nt, hR.defers, fun t p hp => ?_⟩
  · have hn' : look ((o, SObj.arr sz nl (es.take m)) :: o') n = some ob := hn
    rw [look_cons] at hn'
    split at hn'
    · rename_i e; subst e
      simp at hn'; subst hn'
      refine ⟨_, hLo, rfl, htk.symm, by omega, hnil, fun e he => hlen e (List.mem_of_mem_take he), ?_⟩
      cases base with
      | none => exact hcells
      | some bo =>
        refine ⟨fun j c hj => ?_, hcells.2⟩
        have hj2 : (cellsOf es)[j]? = some c := by
          have h0 := cellsOf_take hlen m
          rw [h0, List.getElem?_take] at hj
          split at hj
          · exact hj
          · simp at hj
        obtain ⟨x, k1, k2, k3⟩ := hcells.1 j c hj2
        obtain ⟨e, he, hce⟩ := List.mem_flatMap.1 (List.mem_of_getElem? hj)
        exact ⟨x, k1, k2, hlift (plain_cells (plainL_mem hes e he) c hce) k3⟩
    · rename_i e
      have hmem := look_mem hn'
      have hns : ns.contains n = true := by
        simp only [ns, List.contains_iff_mem, List.mem_map]
        exact ⟨_, hmem, rfl⟩
      obtain ⟨ob', hn2, hcase⟩ := ho.get n ob hmem
      obtain ⟨l, h1, h2⟩ := hM.objs n ob' hn2
      refine ⟨l, hL n hns l h1, ?_⟩
      rcases hcase with ⟨cs, ds, rfl, rfl, hc⟩ | ⟨sz, nl, es, _, rfl, rfl, ⟨rfl, hpl⟩ | ⟨hcv2, hlen2, hds⟩⟩ | ⟨rfl, rfl⟩ | ⟨ks, vs, rfl, rfl, hpl⟩
      · cases l with
        | box b o' n' => exact ⟨h2.1.trans hc.get.1, hcvL hc _ _ h2.2⟩
        | arr => exact h2.elim
        | gone => exact h2.elim
        | map => exact h2.elim
      · cases l with
        | arr base n' cap sz' =>
          cases base with
          | none => exact h2
          | some bo =>
            obtain ⟨k1, k2, k3, k4, k5, k6, k7⟩ := h2
            refine ⟨k1, k2, k3, k4, k5, fun j c hj => ?_, k7⟩
            obtain ⟨x, m1, m2, m3⟩ := k6 j c hj
            obtain ⟨e, he, hce⟩ := List.mem_flatMap.1 (List.mem_of_getElem? hj)
            exact ⟨x, m1, m2, hlift (plain_cells (plainL_mem hpl e he) c hce) m3⟩
        | box => exact h2.elim
        | gone => exact h2.elim
        | map => exact h2.elim
      · cases l with
        | arr base n' cap sz' =>
          cases base with
          | none => exact ⟨h2.1, h2.2.1.trans hlen2, h2.2.2.1, h2.2.2.2.1, hds, h2.2.2.2.2.2⟩
          | some bo =>
            obtain ⟨k1, k2, k3, k4, k5, k6, k7⟩ := h2
            exact ⟨k1, k2.trans hlen2, k3, k4, hds, hcvL hcv2 _ _ k6, k7⟩
        | box => exact h2.elim
        | gone => exact h2.elim
        | map => exact h2.elim
      · cases l <;> exact h2
      · cases l with
        | map b =>
          obtain ⟨es, clock, k1, k2, k3, k4, k5⟩ := h2
          exact ⟨es, clock, k1, k2, (rep_plain_all.2 k3 hpl L').mono (fun b s hx hn => ⟨hx, hF b hn⟩) (LExt.refl _), k4, k5⟩
        | _ => exact h2.elim
  · rcases hL2 n l hn with ⟨rfl, _⟩ | ⟨hne, h1, h2⟩
    · exact ⟨_, by show look ((n, SObj.arr sz nl (es.take m)) :: o') n = _; rw [look_cons, if_pos rfl]⟩
    · simp only [ns, List.contains_iff_mem, List.mem_map] at h2
      obtain ⟨⟨k, ob⟩, hmem, rfl⟩ := h2
      obtain ⟨y, hy⟩ := mem_look hmem
      exact ⟨y, by show look ((o, SObj.arr sz nl (es.take m)) :: o') _ = _; rw [look_cons, if_neg (fun h => hne h.symm)]; exact hy⟩
  · obtain ⟨l0, h1, h2⟩ := hL3 n l b hn hb
    obtain ⟨l0', h1', h2'⟩ := hL3 n' l' b hn' hb'
    exact hM.inj n n' l0 l0' b h1 h1' h2 h2'
  · rcases hL2 n l hn with ⟨rfl, rfl⟩ | ⟨_, h1, _⟩
    · rw [hrng]; exact hM.place n _ b hl0 (hblk ▸ hb)
    · exact hM.place n l b h1 hb
  · rcases hL2 n l hn with ⟨rfl, rfl⟩ | ⟨_, h1, _⟩
    · exact (hM.kind n _ b hl0 (hrng ▸ hb)).to rfl (fun h => h)
    · exact hM.kind n l b h1 hb
  · obtain ⟨l', h1, h2⟩ := hM.lext n l h
    obtain ⟨ob, hob⟩ := hM.dom n l' h1
    have hmem := look_mem hob
    have hpn' := hnt.2 n l h
    have hne : n ≠ o := by
      rintro rfl
      rw [Nat.blt_eq] at hpn; omega
    have := (List.all_eq_true.1 hp) _ hmem
    simp only [Bool.or_eq_true] at this
    rcases this with (h3 | h3) | h3
    · rw [Nat.blt_eq] at h3; omega
    · exact absurd (Nat.eq_of_beq_eq_true h3) hne
    · exact ⟨l', hL n h3 l' h1, h2⟩
  · have hmem := look_mem hp
    obtain ⟨q, g1, g2⟩ := ht.get t p hmem
    obtain ⟨x, h1, h2⟩ := hR.vals t q g1
    refine ⟨x, h1, ?_⟩
    rcases g2 with ⟨rfl, rfl⟩ | ⟨k, rfl, rfl, g2⟩ | g2
    · cases h2 with
      | osl k1 k2 k3 =>
        rw [hl0] at k1
        cases k1
        refine .osl hLo ⟨Nat.le_refl _, fun _ => ?_⟩ k3
        have := k2.2 rfl
        exact ⟨by omega, this.2⟩
    · cases h2 with
      | mref k1 k2 k3 => exact .mref (hσ _ _ g2 _ k1) k2 k3
    · exact hcv1 g2 x h2
end
end Go.Sym
