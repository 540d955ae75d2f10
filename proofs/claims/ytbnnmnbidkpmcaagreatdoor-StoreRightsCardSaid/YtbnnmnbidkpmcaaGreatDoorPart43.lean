/- A part of the proof: Sf, Sg, Sh. -/
import Derived.Test.YtbnnmnbidkpmcaaGreatDoorPart42
set_option linter.unusedVariables false
set_option linter.unusedSimpArgs false
namespace Go.Proofs.Tryz
open Go Go.Sym Go.Graft
set_option maxRecDepth 20000
theorem cReach (nl nf : Bool) (l : List It) (fr0 : List Str) (hs : l.length ≤ 1000000) (hf : fr0.length ≤ 1000000000) (hnf : nf = true → fr0 = []) (H K : List Str) (hR : IsReach l [] fr0 H K) :
    Ctr prog 25 [stPV nl l, .sl nf 1 (fr0.map fun x => sV x)] [] (.tup [.sl (if K = [] then H else []).isEmpty 1 ((if K = [] then H else []).map fun x => sV x), iV (if K = [] then 0 else 171)]) [] [] := by
  have c := cGone nl true nf l [] fr0 hs (by simp) hf hnf H K hR
  simp only [List.map_nil] at c
  refine Ctr.enter tblOk func25 rfl (by decide) rfl (nt := 18) rfl rfl rfl rfl ?_
  refine Trip.seq ?_
  apply Trip.reg tblOk
  · repeat' (first | exact rfl | constructor)
  · exact rfl
  refine Trip.seq ?_
  apply Trip.reg tblOk
  · repeat' (first | exact rfl | (apply Rule.sem; intro hγ; with_reducible apply F_call0 (x := .func 56) (B := []) hγ (hspec := c)) | ((with_reducible refine Side.mk ?_); exact .inl rfl) | constructor)
  · exact rfl
  refine Trip.seq ?_
  refine Trip.seq ?_
  apply Trip.reg tblOk
  · repeat' (first | exact rfl | constructor)
  · exact rfl
  apply Trip.cond (.tmp rfl)
  · intro h
    have h : ¬ K = [] := by rintro rfl; simp at h
    rw [if_neg h, if_neg h]
    refine Trip.seq ?_
    apply Trip.reg tblOk
    · repeat' constructor
    · exact rfl
    refine Trip.ret ?_
    apply Ret2 []
    · repeat' (first | exact rfl | constructor)
    · exact rfl
    · repeat' constructor
    · repeat' constructor
  intro h
  have h : K = [] := by simpa using h
  rw [if_pos h, if_pos h]
  refine Trip.skip ?_
  refine Trip.seq ?_
  apply Trip.reg tblOk
  · repeat' (first | exact rfl | constructor)
  · exact rfl
  refine Trip.ret ?_
  apply Ret2 []
  · repeat' (first | exact rfl | constructor)
  · exact rfl
  · repeat' constructor
  · repeat' constructor
theorem cMissing (nl nf : Bool) (l : List It) (fr0 : List Str) (hs : l.length ≤ 1000000) (hf : fr0.length ≤ 1000000000) (hnf : nf = true → fr0 = []) (H K : List Str) (hR : IsReach l [] fr0 H K) :
    Ctr prog 27 [stPV nl l, .sl nf 1 (fr0.map fun x => sV x)] [] (.sl K.isEmpty 1 (K.map fun x => sV x)) [] [] := by
  have c := cGone nl true nf l [] fr0 hs (by simp) hf hnf H K hR
  simp only [List.map_nil] at c
  refine Ctr.enter tblOk func27 rfl (by decide) rfl (nt := 14) rfl rfl rfl rfl ?_
  refine Trip.seq ?_
  apply Trip.reg tblOk
  · repeat' (first | exact rfl | constructor)
  · exact rfl
  refine Trip.seq ?_
  apply Trip.reg tblOk
  · repeat' (first | exact rfl | (apply Rule.sem; intro hγ; with_reducible apply F_call0 (x := .func 56) (B := []) hγ (hspec := c)) | ((with_reducible refine Side.mk ?_); exact .inl rfl) | constructor)
  · exact rfl
  refine Trip.seq ?_
  apply Trip.reg tblOk
  · repeat' (first | exact rfl | constructor)
  · exact rfl
  refine Trip.ret ?_
  apply Ret1 []
  · repeat' (first | exact rfl | constructor)
  · exact rfl
  · repeat' constructor
def fitsP (l : List It) (x : Str) (k : Int) : Bool := placed l x && decide (l[place l x]!.kind = k)
theorem cFits (nl : Bool) (l : List It) (x : Str) (k : Int) (hs : l.length ≤ 1000000000) : Ctr prog 99 [stPV nl l, sV x, iV k] [] (bV (fitsP l x k)) [] [] := by
  have c := cGet nl l x hs
  have h : fitsP l x k = (decide ((if placed l x = true then (0 : Int) else 5) = 0) && decide ((if placed l x = true then l[place l x]!.kind else 0) = k)) := by
    rw [fitsP]
    cases placed l x <;> simp
  rw [h]
  generalize (if placed l x = true then (0 : Int) else 5) = ee at *
  generalize (if placed l x = true then l[place l x]!.kind else 0) = kk at *
  generalize (if placed l x = true then l[place l x]!.body else []) = bb at *
  refine Ctr.enter tblOk func99 rfl (by decide) rfl (nt := 23) rfl rfl rfl rfl ?_
  refine Trip.seq ?_
  apply Trip.reg tblOk
  · repeat' (first | exact rfl | constructor)
  · exact rfl
  refine Trip.seq ?_
  apply Trip.reg tblOk
  · repeat' (first | exact rfl | (apply Rule.sem; intro hγ; with_reducible apply F_call0 (x := .func 15) (B := []) hγ (hspec := c)) | ((with_reducible refine Side.mk ?_); exact .inl rfl) | constructor)
  · exact rfl
  refine Trip.seq ?_
  apply Trip.reg tblOk
  · repeat' (first | exact rfl | ((with_reducible refine Side.mk ?_); first | exact fun h => h | exact fun _ h => h) | constructor)
  · exact rfl
  refine Trip.ret ?_
  apply Ret1 []
  · repeat' (first | exact rfl | constructor)
  · exact rfl
  · repeat' (exact cvB (by simp only [List.length_map]))
end Go.Proofs.Tryz
namespace Go.Proofs.Tryz
open Go Go.Sym Go.Graft
set_option maxRecDepth 20000
theorem cIndexFuncE (nl : Bool) (l : List En) (f : Nat) (caps : List PV) (hp : plainL caps = true) (q : En → Bool) (hs : l.length ≤ 1000000000000) (hq : ∀ x ∈ l, Ctr prog f (x.pv :: caps) [] (bV (q x)) [] []) : Ctr prog 139 [.sl nl 3 (l.map En.pv), .clo (.func f) [] caps] [] (iV (idxP q l)) [] [] := by
  refine Ctr.enter tblOk func139 rfl (by decide) rfl (nt := 19) rfl rfl rfl rfl ?_
  refine Trip.seq ?_
  apply Trip.reg tblOk
  · repeat' constructor
  · exact rfl
  refine Trip.seq ?_
  refine Trip.seq ?_
  apply Trip.reg tblOk
  · repeat' (first | exact rfl | constructor)
  · exact rfl
  refine Trip.block ?_
  apply Trip.loop (fun (i : Nat) => ⟨[(0, .sl nl 3 (l.map En.pv)), (1, .clo (.func f) [] caps), (7, iV l.length), (8, iV i)], []⟩) (fun (i : Nat) => i ≤ l.length ∧ ∀ j, j < i → q l[j]! = false) (fun (i : Nat) => l.length - i) (0)
  · exact ⟨Nat.zero_le _, fun j hj => absurd hj (by omega)⟩
  · apply Weak.keep
    · exact rfl
    · repeat' (first | exact rfl | (refine vI ?_; first | omega | (simp; done) | (simp; omega) | (simp only [List.length_map] at *; omega)) | constructor)
    · repeat' constructor
    · (show (usesOnlyL _ _ && _) = true; rw [usesOnlyL_plain (by assumption)]; rfl)
    · repeat' constructor
  intro i hi
  obtain ⟨hi, hj⟩ := hi
  refine Trip.seq ?_
  apply Trip.reg tblOk
  · repeat' (first | exact rfl | constructor)
  · exact rfl
  refine Trip.seq ?_
  apply Trip.cond (.tmp rfl)
  · intro h
    have h : i < l.length := by simp at h; omega
    have c := hq _ (bang_mem h)
    refine Trip.skip ?_
    refine Trip.seq ?_
    refine Trip.block ?_
    refine Trip.seq ?_
    apply Trip.reg tblOk
    · repeat' (first | exact rfl | constructor)
    · exact rfl
    refine Trip.seq ?_
    apply Trip.reg tblOk
    · repeat' (first | exact rfl | (apply Rule.sem; intro hγ; with_reducible apply F_call0 (x := .tmp 11) (B := []) hγ (hspec := c)) | exact convL_plain (by assumption) | exact idx_map _ _ _ (by show _ < _; first | omega | (simp only [List.length_map] at *; omega)) | ((with_reducible refine Side.mk ?_); first | exact .inl rfl | (simp only [ln]; first | done | omega)) | constructor)
    · exact rfl
    apply Trip.cond (.tmp rfl)
    · intro h2
      have h2 : q l[i]! = true := h2
      rw [idxP_some h hj h2]
      refine Trip.seq ?_
      apply Trip.reg tblOk
      · repeat' (first | exact rfl | constructor)
      · exact rfl
      refine Trip.ret ?_
      apply Ret1 []
      · repeat' (first | exact rfl | constructor)
      · exact rfl
      · repeat' constructor
    intro h2
    have h2 : q l[i]! = false := h2
    refine Trip.skip ?_
    apply Trip.reg tblOk
    · repeat' (first | exact rfl | ((with_reducible refine Side.mk ?_); omega) | constructor)
    · exact rfl
    refine ⟨i + 1, ?_, ?_, ?_⟩
    · exact ⟨by omega, fun j h3 => (Nat.lt_succ_iff_lt_or_eq.1 h3).elim (hj j) (fun e => e ▸ h2)⟩
    · first | omega | (dsimp only at *; omega)
    · apply Weak.keep
      · exact rfl
      · repeat' (first | exact rfl | constructor)
      · repeat' constructor
      · (show (usesOnlyL _ _ && _) = true; rw [usesOnlyL_plain (by assumption)]; rfl)
      · repeat' constructor
  intro h
  have h : i = l.length := by simp at h; omega
  subst h
  rw [idxP_none hj]
  refine Trip.exit ?_
  refine Trip.seq ?_
  apply Trip.reg tblOk
  · repeat' constructor
  · exact rfl
  refine Trip.ret ?_
  apply Ret1 []
  · repeat' (first | exact rfl | constructor)
  · exact rfl
  · repeat' constructor
theorem cContainsFuncE (nl : Bool) (l : List En) (f : Nat) (caps : List PV) (hp : plainL caps = true) (q : En → Bool) (hs : l.length ≤ 1000000000000) (hq : ∀ x ∈ l, Ctr prog f (x.pv :: caps) [] (bV (q x)) [] []) : Ctr prog 97 [.sl nl 3 (l.map En.pv), .clo (.func f) [] caps] [] (bV (l.any q)) [] [] := by
  have c := cIndexFuncE nl l f caps hp q hs hq
  rw [← idxP_any]
  generalize idxP q l = r at *
  refine Ctr.enter tblOk func97 rfl (by decide) rfl (nt := 9) rfl rfl rfl rfl ?_
  refine Trip.seq ?_
  apply Trip.reg tblOk
  · repeat' constructor
  · exact rfl
  refine Trip.seq ?_
  apply Trip.reg tblOk
  · repeat' (first | exact rfl | (apply Rule.sem; intro hγ; with_reducible apply F_call0 (x := .func 139) (B := []) hγ (hspec := c)) | exact convL_plain (by assumption) | ((with_reducible refine Side.mk ?_); exact .inl rfl) | constructor)
  · exact rfl
  refine Trip.ret ?_
  apply Ret1 []
  · repeat' (first | exact rfl | constructor)
  · exact rfl
  · repeat' (exact cvB (by simp only [List.length_map]))
theorem cLinkedE (nl : Bool) (l : List It) (hs : l.length ≤ 1000000000) (x : En) : Ctr prog 98 [x.pv, .rp [.sl nl 3 (l.map It.pv)]] [] (bV (!fitsP l x.id (if x.mode = 4 then 2 else 1))) [] [] := by
  have c := cFits nl l x.id (if x.mode = 4 then 2 else 1) hs
  generalize hk : (if x.mode = 4 then (2 : Int) else 1) = k at *
  generalize fitsP l x.id k = r at *
  obtain ⟨mode, name, id⟩ := x
  dsimp only at *
  refine Ctr.enter tblOk func98 rfl (by decide) rfl (nt := 14) rfl rfl rfl rfl ?_
  refine Trip.seq ?_
  apply Trip.reg tblOk
  · repeat' (first | exact rfl | constructor)
  · exact rfl
  refine Trip.seq ?_
  apply Trip.reg tblOk
  · repeat' constructor
  · exact rfl
  refine Trip.seqk ⟨[(1, .rp [.sl nl 3 (l.map It.pv)]), (2, .ref 2 0), (4, iV k)], [(2, .box [iV mode, sV name, sV id])]⟩ ?_ ?_
  · refine Trip.seq ?_
    apply Trip.reg tblOk
    · repeat' (first | exact rfl | constructor)
    · exact rfl
    apply Trip.cond (.tmp rfl)
    · intro h
      have h : mode = 4 := by simpa using h
      rw [if_pos h] at hk
      subst hk
      apply Trip.reg tblOk
      · repeat' constructor
      · exact rfl
      apply Weak.keep
      · exact rfl
      · repeat' (first | exact rfl | constructor)
      · repeat' (first | exact rfl | constructor)
      · exact rfl
      · repeat' (first | exact rfl | constructor)
    · intro h
      have h : ¬ mode = 4 := by simpa using h
      rw [if_neg h] at hk
      subst hk
      refine Trip.skip ?_
      apply Weak.keep
      · exact rfl
      · repeat' (first | exact rfl | constructor)
      · repeat' (first | exact rfl | constructor)
      · exact rfl
      · repeat' (first | exact rfl | constructor)
  refine Trip.seq ?_
  apply Trip.reg tblOk
  · repeat' (first | exact rfl | (apply Rule.sem; intro hγ; with_reducible apply F_call0 (x := .func 99) (B := []) hγ (hspec := c)) | ((with_reducible refine Side.mk ?_); exact .inl rfl) | constructor)
  · exact rfl
  refine Trip.ret ?_
  apply Ret1 []
  · repeat' (first | exact rfl | constructor)
  · exact rfl
  · repeat' (exact cvB (by simp only [List.length_map]))
theorem cLinkedS (nl : Bool) (l : List It) (hs : l.length ≤ 1000000000) (x : Str) : Ctr prog 100 [sV x, .rp [.sl nl 3 (l.map It.pv)]] [] (bV (!fitsP l x 3)) [] [] := by
  have c := cFits nl l x 3 hs
  generalize fitsP l x 3 = r at *
  refine Ctr.enter tblOk func100 rfl (by decide) rfl (nt := 8) rfl rfl rfl rfl ?_
  refine Trip.seq ?_
  apply Trip.reg tblOk
  · repeat' constructor
  · exact rfl
  refine Trip.seq ?_
  apply Trip.reg tblOk
  · repeat' (first | exact rfl | (apply Rule.sem; intro hγ; with_reducible apply F_call0 (x := .func 99) (B := []) hγ (hspec := c)) | ((with_reducible refine Side.mk ?_); exact .inl rfl) | constructor)
  · exact rfl
  refine Trip.ret ?_
  apply Ret1 []
  · repeat' (first | exact rfl | constructor)
  · exact rfl
  · repeat' (exact cvB (by simp only [List.length_map]))
def linkP (l : List It) (k : Int) (b : Str) (cut : Bool) : Bool :=
  if k = 2 then !((treeOf b).2.any fun x => !fitsP l x.id (if x.mode = 4 then 2 else 1))
  else if k = 3 then fitsP l (comP b).2.tree 2 && (cut || !((comP b).2.pars.any fun p => !fitsP l p 3))
  else if k = 4 then fitsP l (tgP b).2.obj (tgP b).2.kind
  else true
theorem cLinked (nl : Bool) (l : List It) (k : Int) (b : Str) (cut : Bool) (hs : l.length ≤ 1000000000) (hb : b.length ≤ 100000000) : Ctr prog 60 [stPV nl l, objPV k b, bV cut] [] (bV (linkP l k b cut)) [] [] := by
  rw [linkP]
  refine Ctr.enter tblOk func60 rfl (by decide) rfl (nt := 63) rfl rfl rfl rfl ?_
  refine Trip.seq ?_
  apply Trip.reg tblOk
  · repeat' (first | exact rfl | constructor)
  · exact rfl
  apply Trip.weak (S' := ⟨[(2, bV cut), (3, .rp [.sl nl 3 (l.map It.pv)]), (4, .ref 4 0)], [(4, .box [iV k, sV b])]⟩)
  · refine Weak.trans (S2 := ⟨[(2, bV cut), (3, .ref 3 0), (4, .ref 4 0)], [(3, .box [.sl nl 3 (l.map It.pv)]), (4, .box [iV k, sV b])]⟩) ?_ ?_
    · apply Weak.keep
      · exact rfl
      · repeat' (first | exact rfl | constructor)
      · repeat' (first | exact rfl | constructor)
      · exact rfl
      · repeat' (first | exact rfl | constructor)
    · refine Weak.turn [3] rfl rfl ?_ ?_
      · repeat' (first | exact rfl | constructor)
      · repeat' (first | exact rfl | constructor)
  refine Trip.seq ?_
  refine Trip.seq ?_
  apply Trip.reg tblOk
  · repeat' (first | exact rfl | constructor)
  · exact rfl
  refine Trip.block ?_
  refine Trip.seq ?_
  apply Trip.reg tblOk
  · repeat' (first | exact rfl | constructor)
  · exact rfl
  apply Trip.cond (.tmp rfl)
  · intro h
    have h : k = 2 := by simpa using h
    rw [if_pos h]
    have c1 := cParseT b (by omega)
    generalize (treeOf b).1 = e at *
    generalize hE : (treeOf b).2 = E at *
    have hEl : E.length ≤ 1000000000000 := by have := treeOf_len b; rw [hE] at this; omega
    have c2 := cContainsFuncE E.isEmpty E 98 [.rp [.sl nl 3 (l.map It.pv)]] rfl (fun x => !fitsP l x.id (if x.mode = 4 then 2 else 1)) hEl (fun x _ => cLinkedE nl l hs x)
    generalize (E.any fun x => !fitsP l x.id (if x.mode = 4 then 2 else 1)) = r at *
    refine Trip.seq ?_
    apply Trip.reg tblOk
    · repeat' (first | exact rfl | (apply Rule.sem; intro hγ; with_reducible apply F_call0 (x := .func 70) (B := []) hγ (hspec := c1)) | ((with_reducible refine Side.mk ?_); exact .inl rfl) | constructor)
    · exact rfl
    refine Trip.seq ?_
    apply Trip.reg tblOk
    · repeat' (first | exact rfl | (apply Rule.sem; intro hγ; with_reducible apply F_call0 (x := .func 97) (B := []) hγ (hspec := c2)) | ((with_reducible refine Side.mk ?_); exact .inl rfl) | constructor)
    · exact rfl
    refine Trip.ret ?_
    apply Ret1 []
    · repeat' (first | exact rfl | constructor)
    · exact rfl
    · repeat' (exact cvB (by simp only [List.length_map]))
  intro h
  have h : ¬ k = 2 := by simpa using h
  rw [if_neg h]
  refine Trip.seq ?_
  apply Trip.reg tblOk
  · repeat' (first | exact rfl | constructor)
  · exact rfl
  apply Trip.cond (.tmp rfl)
  · intro h
    have h : k = 3 := by simpa using h
    rw [if_pos h]
    have c1 := cParseC b hb
    generalize (comP b).1 = e at *
    generalize hC : (comP b).2 = C at *
    have hPl : C.pars.length ≤ 1000000000000 := by have := comR_len b; rw [← com_same, hC] at this; omega
    have c2 := cFits nl l C.tree 2 hs
    have c3 := cContainsFuncS C.pars.isEmpty C.pars 100 [.rp [.sl nl 3 (l.map It.pv)]] rfl (fun p => !fitsP l p 3) hPl (fun x _ => cLinkedS nl l hs x)
    generalize (C.pars.any fun p => !fitsP l p 3) = r at *
    generalize fitsP l C.tree 2 = r2 at *
    generalize C.pars.isEmpty = ni at *
    obtain ⟨tree, pars, ⟨an, am, at', az⟩, ⟨cn, cm, ct, cz⟩, text⟩ := C
    dsimp only at *
    refine Trip.seq ?_
    apply Trip.reg tblOk
    · repeat' (first | exact rfl | (apply Rule.sem; intro hγ; with_reducible apply F_call0 (x := .func 71) (B := []) hγ (hspec := c1)) | ((with_reducible refine Side.mk ?_); exact .inl rfl) | constructor)
    · exact rfl
    refine Trip.seq ?_
    apply Trip.reg tblOk
    · repeat' (first | exact rfl | (apply Rule.sem; intro hγ; with_reducible apply F_call0 (x := .func 99) (B := []) hγ (hspec := c2)) | (apply Rule.sem; intro hγ; with_reducible apply F_call0 (x := .func 58) (B := []) hγ (hspec := c3)) | ((with_reducible refine Side.mk ?_); first | exact .inl rfl | exact fun h => h | exact fun _ h => h | (intro h1 h2; rw [h1, h2]; rfl)) | constructor)
    · exact rfl
    refine Trip.ret ?_
    apply Ret1 []
    · repeat' (first | exact rfl | constructor)
    · exact rfl
    · repeat' (exact cvB (by simp only [List.length_map]))
  intro h
  have h : ¬ k = 3 := by simpa using h
  rw [if_neg h]
  refine Trip.seq ?_
  apply Trip.reg tblOk
  · repeat' (first | exact rfl | constructor)
  · exact rfl
  apply Trip.cond (.tmp rfl)
  · intro h
    have h : k = 4 := by simpa using h
    rw [if_pos h]
    have c1 := cParseTg b hb
    generalize (tgP b).1 = e at *
    generalize (tgP b).2 = C at *
    have c2 := cFits nl l C.obj C.kind hs
    generalize fitsP l C.obj C.kind = r2 at *
    obtain ⟨obj, kind, name, ⟨an, am, at', az⟩, text⟩ := C
    dsimp only at *
    refine Trip.seq ?_
    apply Trip.reg tblOk
    · repeat' (first | exact rfl | (apply Rule.sem; intro hγ; with_reducible apply F_call0 (x := .func 72) (B := []) hγ (hspec := c1)) | ((with_reducible refine Side.mk ?_); exact .inl rfl) | constructor)
    · exact rfl
    refine Trip.seq ?_
    apply Trip.reg tblOk
    · repeat' (first | exact rfl | (apply Rule.sem; intro hγ; with_reducible apply F_call0 (x := .func 99) (B := []) hγ (hspec := c2)) | ((with_reducible refine Side.mk ?_); exact .inl rfl) | constructor)
    · exact rfl
    refine Trip.ret ?_
    apply Ret1 []
    · repeat' (first | exact rfl | constructor)
    · exact rfl
    · repeat' (exact cvB (by simp only [List.length_map]))
  intro h
  have h : ¬ k = 4 := by simpa using h
  rw [if_neg h]
  refine Trip.skip ?_
  refine Trip.seq ?_
  apply Trip.reg tblOk
  · repeat' constructor
  · exact rfl
  refine Trip.ret ?_
  apply Ret1 []
  · repeat' (first | exact rfl | constructor)
  · exact rfl
  · repeat' (exact cvB (by simp only [List.length_map]))
end Go.Proofs.Tryz
namespace Go.Proofs.Tryz
open Go Go.Sym Go.Graft
set_option maxRecDepth 20000
theorem cWholeFn (nl nc : Bool) (l : List It) (cuts : List Str) (hs : l.length ≤ 1000000000) (hc : cuts.length ≤ 1000000000) (x : Str) (hp : placed l x = true) (hb : l[place l x]!.body.length ≤ 100000000) :
    Ctr prog 59 [sV x, .rp [.sl nl 3 (l.map It.pv)], .rp [.sl nc 1 (cuts.map fun x => sV x)]] [] (bV (!linkP l l[place l x]!.kind l[place l x]!.body (hasS cuts x))) [] [] := by
  have c := cGet nl l x hs
  rw [hp] at c
  simp only [if_true] at c
  have c2 := cLinked nl l l[place l x]!.kind l[place l x]!.body (hasS cuts x) hs hb
  have c3 := cContainsS nc cuts x (by omega)
  generalize linkP l l[place l x]!.kind l[place l x]!.body (hasS cuts x) = r at *
  generalize l[place l x]!.kind = kk at *
  generalize l[place l x]!.body = bb at *
  generalize hasS cuts x = q at *
  refine Ctr.enter tblOk func59 rfl (by decide) rfl (nt := 20) rfl rfl rfl rfl ?_
  refine Trip.seq ?_
  apply Trip.reg tblOk
  · repeat' constructor
  · exact rfl
  refine Trip.seq ?_
  apply Trip.reg tblOk
  · repeat' (first | exact rfl | (apply Rule.sem; intro hγ; with_reducible apply F_call0 (x := .func 15) (B := []) hγ (hspec := c)) | ((with_reducible refine Side.mk ?_); exact .inl rfl) | constructor)
  · exact rfl
  refine Trip.seq ?_
  apply Trip.drw tblOk mixed
  · repeat' (first | exact rfl | (apply Rule.sem; intro hγ; with_reducible apply F_call0 (x := .func 61) (B := []) hγ (hspec := c3)) | (apply Rule.sem; intro hγ; with_reducible apply F_call0 (x := .func 60) (B := []) hγ (hspec := c2)) | ((with_reducible refine Side.mk ?_); exact .inl rfl) | constructor)
  · exact rfl
  · kernel_rfl
  refine Trip.ret ?_
  apply Ret1 []
  · repeat' (first | exact rfl | constructor)
  · exact rfl
  · repeat' (exact cvB (by simp only [List.length_map]))
def wholeP (l : List It) (cuts H K : List Str) : Bool := decide ((K.length : Int) = 0) && !(H.any fun x => !linkP l l[place l x]!.kind l[place l x]!.body (hasS cuts x))
theorem cWholeP (nl nc nf : Bool) (l : List It) (cuts fr0 : List Str) (hs : l.length ≤ 1000000) (hc : cuts.length ≤ 1000000000) (hf : fr0.length ≤ 1000000000) (hnf : nf = true → fr0 = []) (hb : ∀ it ∈ l, it.body.length ≤ 100000000) (H K : List Str) (hR : IsReach l cuts fr0 H K) (hH : H.length ≤ 1000000000000) :
    Ctr prog 29 [stPV nl l, .sl nc 1 (cuts.map fun x => sV x), .sl nf 1 (fr0.map fun x => sV x)] [] (bV (wholeP l cuts H K)) [] [] := by
  have c := cGone nl nc nf l cuts fr0 hs hc hf hnf H K hR
  have c2 := cContainsFuncS H.isEmpty H 59 [.rp [.sl nl 3 (l.map It.pv)], .rp [.sl nc 1 (cuts.map fun x => sV x)]] rfl (fun x => !linkP l l[place l x]!.kind l[place l x]!.body (hasS cuts x)) hH (fun x hx => cWholeFn nl nc l cuts (by omega) hc x ((hR.m1 x).1 hx).2 (by
    have h := placed_lt ((hR.m1 x).1 hx).2
    exact hb _ (bang_mem h.1)))
  rw [wholeP]
  generalize (H.any fun x => !linkP l l[place l x]!.kind l[place l x]!.body (hasS cuts x)) = r at *
  refine Ctr.enter tblOk func29 rfl (by decide) rfl (nt := 25) rfl rfl rfl rfl ?_
  refine Trip.seq ?_
  apply Trip.reg tblOk
  · repeat' (first | exact rfl | constructor)
  · exact rfl
  refine Trip.seq ?_
  apply Trip.reg tblOk
  · repeat' (first | exact rfl | (apply Rule.sem; intro hγ; with_reducible apply F_call0 (x := .func 56) (B := []) hγ (hspec := c)) | ((with_reducible refine Side.mk ?_); exact .inl rfl) | constructor)
  · exact rfl
  apply Trip.weak (S' := ⟨[(3, .rp [.sl nl 3 (l.map It.pv)]), (4, .rp [.sl nc 1 (cuts.map fun x => sV x)]), (7, .sl H.isEmpty 1 (H.map fun x => sV x)), (8, .sl K.isEmpty 1 (K.map fun x => sV x))], []⟩)
  · refine Weak.trans (S2 := ⟨[(3, .ref 3 0), (4, .ref 4 0), (7, .sl H.isEmpty 1 (H.map fun x => sV x)), (8, .sl K.isEmpty 1 (K.map fun x => sV x))], [(3, .box [.sl nl 3 (l.map It.pv)]), (4, .box [.sl nc 1 (cuts.map fun x => sV x)])]⟩) ?_ ?_
    · apply Weak.keep
      · exact rfl
      · repeat' (first | exact rfl | constructor)
      · repeat' (first | exact rfl | constructor)
      · exact rfl
      · repeat' (first | exact rfl | constructor)
    · refine Weak.turn [3, 4] rfl rfl ?_ ?_
      · repeat' (first | exact rfl | constructor)
      · repeat' (first | exact rfl | constructor)
  refine Trip.seq ?_
  apply Trip.reg tblOk
  · repeat' (first | exact rfl | (apply Rule.sem; intro hγ; with_reducible apply F_call0 (x := .func 58) (B := []) hγ (hspec := c2)) | ((with_reducible refine Side.mk ?_); first | exact .inl rfl | exact fun h => h | exact fun _ h => h) | constructor)
  · exact rfl
  refine Trip.ret ?_
  apply Ret1 []
  · repeat' (first | exact rfl | constructor)
  · exact rfl
  · repeat' (exact cvB (by simp [List.length_map]))
end Go.Proofs.Tryz
