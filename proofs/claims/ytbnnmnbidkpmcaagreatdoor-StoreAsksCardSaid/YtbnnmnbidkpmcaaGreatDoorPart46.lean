/- A part of the proof: Sg, Sh, Hins. -/
import Derived.Test.YtbnnmnbidkpmcaaGreatDoorPart45
set_option linter.unusedVariables false
set_option linter.unusedSimpArgs false
namespace Go.Proofs.Tryz
open Go Go.Sym Go.Graft
set_option maxRecDepth 20000
theorem cIndexFuncE (nl : Bool) (l : List En) (f : Nat) (caps : List PV) (hp : plainL caps = true) (q : En → Bool) (hs : l.length ≤ 1000000000000) (hq : ∀ x ∈ l, Ctr prog f (x.pv :: caps) [] (bV (q x)) [] []) : Ctr prog 139 [.sl nl 3 (l.map En.pv), .clo (.func f) [] caps] [] (iV (idxP q l)) [] [] := by
  refine Ctr.enter tblOk func139 rfl (by decide) rfl (nt := 19) rfl rfl rfl rfl ?_
  refine Trip.seq ?_
  apply Trip.reg tblOk
  · repeat' constructor
  · exact rfl
  refine Trip.seq ?_
  refine Trip.seq ?_
  apply Trip.reg tblOk
  · repeat' (first | exact rfl | constructor)
  · exact rfl
  refine Trip.block ?_
  apply Trip.loop (fun (i : Nat) => ⟨[(0, .sl nl 3 (l.map En.pv)), (1, .clo (.func f) [] caps), (7, iV l.length), (8, iV i)], []⟩) (fun (i : Nat) => i ≤ l.length ∧ ∀ j, j < i → q l[j]! = false) (fun (i : Nat) => l.length - i) (0)
  · exact ⟨Nat.zero_le _, fun j hj => absurd hj (by omega)⟩
  · apply Weak.keep
    · exact rfl
    · repeat' (first | exact rfl | (refine vI ?_; first | omega | (simp; done) | (simp; omega) | (simp only [List.length_map] at *; omega)) | constructor)
    · repeat' constructor
    · (show (usesOnlyL _ _ && _) = true; rw [usesOnlyL_plain (by assumption)]; rfl)
    · repeat' constructor
  intro i hi
  obtain ⟨hi, hj⟩ := hi
  refine Trip.seq ?_
  apply Trip.reg tblOk
  · repeat' (first | exact rfl | constructor)
  · exact rfl
  refine Trip.seq ?_
  apply Trip.cond (.tmp rfl)
  · intro h
    have h : i < l.length := by simp at h; omega
    have c := hq _ (bang_mem h)
    refine Trip.skip ?_
    refine Trip.seq ?_
    refine Trip.block ?_
    refine Trip.seq ?_
    apply Trip.reg tblOk
    · repeat' (first | exact rfl | constructor)
    · exact rfl
    refine Trip.seq ?_
    apply Trip.reg tblOk
    · repeat' (first | exact rfl | (apply Rule.sem; intro hγ; with_reducible apply F_call0 (x := .tmp 11) (B := []) hγ (hspec := c)) | exact convL_plain (by assumption) | exact idx_map _ _ _ (by show _ < _; first | omega | (simp only [List.length_map] at *; omega)) | ((with_reducible refine Side.mk ?_); first | exact .inl rfl | (simp only [ln]; first | done | omega)) | constructor)
    · exact rfl
    apply Trip.cond (.tmp rfl)
    · intro h2
      have h2 : q l[i]! = true := h2
      rw [idxP_some h hj h2]
      refine Trip.seq ?_
      apply Trip.reg tblOk
      · repeat' (first | exact rfl | constructor)
      · exact rfl
      refine Trip.ret ?_
      apply Ret1 []
      · repeat' (first | exact rfl | constructor)
      · exact rfl
      · repeat' constructor
    intro h2
    have h2 : q l[i]! = false := h2
    refine Trip.skip ?_
    apply Trip.reg tblOk
    · repeat' (first | exact rfl | ((with_reducible refine Side.mk ?_); omega) | constructor)
    · exact rfl
    refine ⟨i + 1, ?_, ?_, ?_⟩
    · exact ⟨by omega, fun j h3 => (Nat.lt_succ_iff_lt_or_eq.1 h3).elim (hj j) (fun e => e ▸ h2)⟩
    · first | omega | (dsimp only at *; omega)
    · apply Weak.keep
      · exact rfl
      · repeat' (first | exact rfl | constructor)
      · repeat' constructor
      · (show (usesOnlyL _ _ && _) = true; rw [usesOnlyL_plain (by assumption)]; rfl)
      · repeat' constructor
  intro h
  have h : i = l.length := by simp at h; omega
  subst h
  rw [idxP_none hj]
  refine Trip.exit ?_
  refine Trip.seq ?_
  apply Trip.reg tblOk
  · repeat' constructor
  · exact rfl
  refine Trip.ret ?_
  apply Ret1 []
  · repeat' (first | exact rfl | constructor)
  · exact rfl
  · repeat' constructor
theorem cContainsFuncE (nl : Bool) (l : List En) (f : Nat) (caps : List PV) (hp : plainL caps = true) (q : En → Bool) (hs : l.length ≤ 1000000000000) (hq : ∀ x ∈ l, Ctr prog f (x.pv :: caps) [] (bV (q x)) [] []) : Ctr prog 97 [.sl nl 3 (l.map En.pv), .clo (.func f) [] caps] [] (bV (l.any q)) [] [] := by
  have c := cIndexFuncE nl l f caps hp q hs hq
  rw [← idxP_any]
  generalize idxP q l = r at *
  refine Ctr.enter tblOk func97 rfl (by decide) rfl (nt := 9) rfl rfl rfl rfl ?_
  refine Trip.seq ?_
  apply Trip.reg tblOk
  · repeat' constructor
  · exact rfl
  refine Trip.seq ?_
  apply Trip.reg tblOk
  · repeat' (first | exact rfl | (apply Rule.sem; intro hγ; with_reducible apply F_call0 (x := .func 139) (B := []) hγ (hspec := c)) | exact convL_plain (by assumption) | ((with_reducible refine Side.mk ?_); exact .inl rfl) | constructor)
  · exact rfl
  refine Trip.ret ?_
  apply Ret1 []
  · repeat' (first | exact rfl | constructor)
  · exact rfl
  · repeat' (exact cvB (by simp only [List.length_map]))
theorem cLinkedE (nl : Bool) (l : List It) (hs : l.length ≤ 1000000000) (x : En) : Ctr prog 98 [x.pv, .rp [.sl nl 3 (l.map It.pv)]] [] (bV (!fitsP l x.id (if x.mode = 4 then 2 else 1))) [] [] := by
  have c := cFits nl l x.id (if x.mode = 4 then 2 else 1) hs
  generalize hk : (if x.mode = 4 then (2 : Int) else 1) = k at *
  generalize fitsP l x.id k = r at *
  obtain ⟨mode, name, id⟩ := x
  dsimp only at *
  refine Ctr.enter tblOk func98 rfl (by decide) rfl (nt := 14) rfl rfl rfl rfl ?_
  refine Trip.seq ?_
  apply Trip.reg tblOk
  · repeat' (first | exact rfl | constructor)
  · exact rfl
  refine Trip.seq ?_
  apply Trip.reg tblOk
  · repeat' constructor
  · exact rfl
  refine Trip.seqk ⟨[(1, .rp [.sl nl 3 (l.map It.pv)]), (2, .ref 2 0), (4, iV k)], [(2, .box [iV mode, sV name, sV id])]⟩ ?_ ?_
  · refine Trip.seq ?_
    apply Trip.reg tblOk
    · repeat' (first | exact rfl | constructor)
    · exact rfl
    apply Trip.cond (.tmp rfl)
    · intro h
      have h : mode = 4 := by simpa using h
      rw [if_pos h] at hk
      subst hk
      apply Trip.reg tblOk
      · repeat' constructor
      · exact rfl
      apply Weak.keep
      · exact rfl
      · repeat' (first | exact rfl | constructor)
      · repeat' (first | exact rfl | constructor)
      · exact rfl
      · repeat' (first | exact rfl | constructor)
    · intro h
      have h : ¬ mode = 4 := by simpa using h
      rw [if_neg h] at hk
      subst hk
      refine Trip.skip ?_
      apply Weak.keep
      · exact rfl
      · repeat' (first | exact rfl | constructor)
      · repeat' (first | exact rfl | constructor)
      · exact rfl
      · repeat' (first | exact rfl | constructor)
  refine Trip.seq ?_
  apply Trip.reg tblOk
  · repeat' (first | exact rfl | (apply Rule.sem; intro hγ; with_reducible apply F_call0 (x := .func 99) (B := []) hγ (hspec := c)) | ((with_reducible refine Side.mk ?_); exact .inl rfl) | constructor)
  · exact rfl
  refine Trip.ret ?_
  apply Ret1 []
  · repeat' (first | exact rfl | constructor)
  · exact rfl
  · repeat' (exact cvB (by simp only [List.length_map]))
theorem cLinkedS (nl : Bool) (l : List It) (hs : l.length ≤ 1000000000) (x : Str) : Ctr prog 100 [sV x, .rp [.sl nl 3 (l.map It.pv)]] [] (bV (!fitsP l x 3)) [] [] := by
  have c := cFits nl l x 3 hs
  generalize fitsP l x 3 = r at *
  refine Ctr.enter tblOk func100 rfl (by decide) rfl (nt := 8) rfl rfl rfl rfl ?_
  refine Trip.seq ?_
  apply Trip.reg tblOk
  · repeat' constructor
  · exact rfl
  refine Trip.seq ?_
  apply Trip.reg tblOk
  · repeat' (first | exact rfl | (apply Rule.sem; intro hγ; with_reducible apply F_call0 (x := .func 99) (B := []) hγ (hspec := c)) | ((with_reducible refine Side.mk ?_); exact .inl rfl) | constructor)
  · exact rfl
  refine Trip.ret ?_
  apply Ret1 []
  · repeat' (first | exact rfl | constructor)
  · exact rfl
  · repeat' (exact cvB (by simp only [List.length_map]))
def linkP (l : List It) (k : Int) (b : Str) (cut : Bool) : Bool :=
  if k = 2 then !((treeOf b).2.any fun x => !fitsP l x.id (if x.mode = 4 then 2 else 1))
  else if k = 3 then fitsP l (comP b).2.tree 2 && (cut || !((comP b).2.pars.any fun p => !fitsP l p 3))
  else if k = 4 then fitsP l (tgP b).2.obj (tgP b).2.kind
  else true
theorem cLinked (nl : Bool) (l : List It) (k : Int) (b : Str) (cut : Bool) (hs : l.length ≤ 1000000000) (hb : b.length ≤ 100000000) : Ctr prog 60 [stPV nl l, objPV k b, bV cut] [] (bV (linkP l k b cut)) [] [] := by
  rw [linkP]
  refine Ctr.enter tblOk func60 rfl (by decide) rfl (nt := 63) rfl rfl rfl rfl ?_
  refine Trip.seq ?_
  apply Trip.reg tblOk
  · repeat' (first | exact rfl | constructor)
  · exact rfl
  apply Trip.weak (S' := ⟨[(2, bV cut), (3, .rp [.sl nl 3 (l.map It.pv)]), (4, .ref 4 0)], [(4, .box [iV k, sV b])]⟩)
  · refine Weak.trans (S2 := ⟨[(2, bV cut), (3, .ref 3 0), (4, .ref 4 0)], [(3, .box [.sl nl 3 (l.map It.pv)]), (4, .box [iV k, sV b])]⟩) ?_ ?_
    · apply Weak.keep
      · exact rfl
      · repeat' (first | exact rfl | constructor)
      · repeat' (first | exact rfl | constructor)
      · exact rfl
      · repeat' (first | exact rfl | constructor)
    · refine Weak.turn [3] rfl rfl ?_ ?_
      · repeat' (first | exact rfl | constructor)
      · repeat' (first | exact rfl | constructor)
  refine Trip.seq ?_
  refine Trip.seq ?_
  apply Trip.reg tblOk
  · repeat' (first | exact rfl | constructor)
  · exact rfl
  refine Trip.block ?_
  refine Trip.seq ?_
  apply Trip.reg tblOk
  · repeat' (first | exact rfl | constructor)
  · exact rfl
  apply Trip.cond (.tmp rfl)
  · intro h
    have h : k = 2 := by simpa using h
    rw [if_pos h]
    have c1 := cParseT b (by omega)
    generalize (treeOf b).1 = e at *
    generalize hE : (treeOf b).2 = E at *
    have hEl : E.length ≤ 1000000000000 := by have := treeOf_len b; rw [hE] at this; omega
    have c2 := cContainsFuncE E.isEmpty E 98 [.rp [.sl nl 3 (l.map It.pv)]] rfl (fun x => !fitsP l x.id (if x.mode = 4 then 2 else 1)) hEl (fun x _ => cLinkedE nl l hs x)
    generalize (E.any fun x => !fitsP l x.id (if x.mode = 4 then 2 else 1)) = r at *
    refine Trip.seq ?_
    apply Trip.reg tblOk
    · repeat' (first | exact rfl | (apply Rule.sem; intro hγ; with_reducible apply F_call0 (x := .func 70) (B := []) hγ (hspec := c1)) | ((with_reducible refine Side.mk ?_); exact .inl rfl) | constructor)
    · exact rfl
    refine Trip.seq ?_
    apply Trip.reg tblOk
    · repeat' (first | exact rfl | (apply Rule.sem; intro hγ; with_reducible apply F_call0 (x := .func 97) (B := []) hγ (hspec := c2)) | ((with_reducible refine Side.mk ?_); exact .inl rfl) | constructor)
    · exact rfl
    refine Trip.ret ?_
    apply Ret1 []
    · repeat' (first | exact rfl | constructor)
    · exact rfl
    · repeat' (exact cvB (by simp only [List.length_map]))
  intro h
  have h : ¬ k = 2 := by simpa using h
  rw [if_neg h]
  refine Trip.seq ?_
  apply Trip.reg tblOk
  · repeat' (first | exact rfl | constructor)
  · exact rfl
  apply Trip.cond (.tmp rfl)
  · intro h
    have h : k = 3 := by simpa using h
    rw [if_pos h]
    have c1 := cParseC b hb
    generalize (comP b).1 = e at *
    generalize hC : (comP b).2 = C at *
    have hPl : C.pars.length ≤ 1000000000000 := by have := comR_len b; rw [← com_same, hC] at this; omega
    have c2 := cFits nl l C.tree 2 hs
    have c3 := cContainsFuncS C.pars.isEmpty C.pars 100 [.rp [.sl nl 3 (l.map It.pv)]] rfl (fun p => !fitsP l p 3) hPl (fun x _ => cLinkedS nl l hs x)
    generalize (C.pars.any fun p => !fitsP l p 3) = r at *
    generalize fitsP l C.tree 2 = r2 at *
    generalize C.pars.isEmpty = ni at *
    obtain ⟨tree, pars, ⟨an, am, at', az⟩, ⟨cn, cm, ct, cz⟩, text⟩ := C
    dsimp only at *
    refine Trip.seq ?_
    apply Trip.reg tblOk
    · repeat' (first | exact rfl | (apply Rule.sem; intro hγ; with_reducible apply F_call0 (x := .func 71) (B := []) hγ (hspec := c1)) | ((with_reducible refine Side.mk ?_); exact .inl rfl) | constructor)
    · exact rfl
    refine Trip.seq ?_
    apply Trip.reg tblOk
    · repeat' (first | exact rfl | (apply Rule.sem; intro hγ; with_reducible apply F_call0 (x := .func 99) (B := []) hγ (hspec := c2)) | (apply Rule.sem; intro hγ; with_reducible apply F_call0 (x := .func 58) (B := []) hγ (hspec := c3)) | ((with_reducible refine Side.mk ?_); first | exact .inl rfl | exact fun h => h | exact fun _ h => h | (intro h1 h2; rw [h1, h2]; rfl)) | constructor)
    · exact rfl
    refine Trip.ret ?_
    apply Ret1 []
    · repeat' (first | exact rfl | constructor)
    · exact rfl
    · repeat' (exact cvB (by simp only [List.length_map]))
  intro h
  have h : ¬ k = 3 := by simpa using h
  rw [if_neg h]
  refine Trip.seq ?_
  apply Trip.reg tblOk
  · repeat' (first | exact rfl | constructor)
  · exact rfl
  apply Trip.cond (.tmp rfl)
  · intro h
    have h : k = 4 := by simpa using h
    rw [if_pos h]
    have c1 := cParseTg b hb
    generalize (tgP b).1 = e at *
    generalize (tgP b).2 = C at *
    have c2 := cFits nl l C.obj C.kind hs
    generalize fitsP l C.obj C.kind = r2 at *
    obtain ⟨obj, kind, name, ⟨an, am, at', az⟩, text⟩ := C
    dsimp only at *
    refine Trip.seq ?_
    apply Trip.reg tblOk
    · repeat' (first | exact rfl | (apply Rule.sem; intro hγ; with_reducible apply F_call0 (x := .func 72) (B := []) hγ (hspec := c1)) | ((with_reducible refine Side.mk ?_); exact .inl rfl) | constructor)
    · exact rfl
    refine Trip.seq ?_
    apply Trip.reg tblOk
    · repeat' (first | exact rfl | (apply Rule.sem; intro hγ; with_reducible apply F_call0 (x := .func 99) (B := []) hγ (hspec := c2)) | ((with_reducible refine Side.mk ?_); exact .inl rfl) | constructor)
    · exact rfl
    refine Trip.ret ?_
    apply Ret1 []
    · repeat' (first | exact rfl | constructor)
    · exact rfl
    · repeat' (exact cvB (by simp only [List.length_map]))
  intro h
  have h : ¬ k = 4 := by simpa using h
  rw [if_neg h]
  refine Trip.skip ?_
  refine Trip.seq ?_
  apply Trip.reg tblOk
  · repeat' constructor
  · exact rfl
  refine Trip.ret ?_
  apply Ret1 []
  · repeat' (first | exact rfl | constructor)
  · exact rfl
  · repeat' (exact cvB (by simp only [List.length_map]))
end Go.Proofs.Tryz
namespace Go.Proofs.Tryz
open Go Go.Sym Go.Graft
set_option maxRecDepth 20000
theorem cWholeFn (nl nc : Bool) (l : List It) (cuts : List Str) (hs : l.length ≤ 1000000000) (hc : cuts.length ≤ 1000000000) (x : Str) (hp : placed l x = true) (hb : l[place l x]!.body.length ≤ 100000000) :
    Ctr prog 59 [sV x, .rp [.sl nl 3 (l.map It.pv)], .rp [.sl nc 1 (cuts.map fun x => sV x)]] [] (bV (!linkP l l[place l x]!.kind l[place l x]!.body (hasS cuts x))) [] [] := by
  have c := cGet nl l x hs
  rw [hp] at c
  simp only [if_true] at c
  have c2 := cLinked nl l l[place l x]!.kind l[place l x]!.body (hasS cuts x) hs hb
  have c3 := cContainsS nc cuts x (by omega)
  generalize linkP l l[place l x]!.kind l[place l x]!.body (hasS cuts x) = r at *
  generalize l[place l x]!.kind = kk at *
  generalize l[place l x]!.body = bb at *
  generalize hasS cuts x = q at *
  refine Ctr.enter tblOk func59 rfl (by decide) rfl (nt := 20) rfl rfl rfl rfl ?_
  refine Trip.seq ?_
  apply Trip.reg tblOk
  · repeat' constructor
  · exact rfl
  refine Trip.seq ?_
  apply Trip.reg tblOk
  · repeat' (first | exact rfl | (apply Rule.sem; intro hγ; with_reducible apply F_call0 (x := .func 15) (B := []) hγ (hspec := c)) | ((with_reducible refine Side.mk ?_); exact .inl rfl) | constructor)
  · exact rfl
  refine Trip.seq ?_
  apply Trip.drw tblOk mixed
  · repeat' (first | exact rfl | (apply Rule.sem; intro hγ; with_reducible apply F_call0 (x := .func 61) (B := []) hγ (hspec := c3)) | (apply Rule.sem; intro hγ; with_reducible apply F_call0 (x := .func 60) (B := []) hγ (hspec := c2)) | ((with_reducible refine Side.mk ?_); exact .inl rfl) | constructor)
  · exact rfl
  · kernel_rfl
  refine Trip.ret ?_
  apply Ret1 []
  · repeat' (first | exact rfl | constructor)
  · exact rfl
  · repeat' (exact cvB (by simp only [List.length_map]))
def wholeP (l : List It) (cuts H K : List Str) : Bool := decide ((K.length : Int) = 0) && !(H.any fun x => !linkP l l[place l x]!.kind l[place l x]!.body (hasS cuts x))
theorem cWholeP (nl nc nf : Bool) (l : List It) (cuts fr0 : List Str) (hs : l.length ≤ 1000000) (hc : cuts.length ≤ 1000000000) (hf : fr0.length ≤ 1000000000) (hnf : nf = true → fr0 = []) (hb : ∀ it ∈ l, it.body.length ≤ 100000000) (H K : List Str) (hR : IsReach l cuts fr0 H K) (hH : H.length ≤ 1000000000000) :
    Ctr prog 29 [stPV nl l, .sl nc 1 (cuts.map fun x => sV x), .sl nf 1 (fr0.map fun x => sV x)] [] (bV (wholeP l cuts H K)) [] [] := by
  have c := cGone nl nc nf l cuts fr0 hs hc hf hnf H K hR
  have c2 := cContainsFuncS H.isEmpty H 59 [.rp [.sl nl 3 (l.map It.pv)], .rp [.sl nc 1 (cuts.map fun x => sV x)]] rfl (fun x => !linkP l l[place l x]!.kind l[place l x]!.body (hasS cuts x)) hH (fun x hx => cWholeFn nl nc l cuts (by omega) hc x ((hR.m1 x).1 hx).2 (by
    have h := placed_lt ((hR.m1 x).1 hx).2
    exact hb _ (bang_mem h.1)))
  rw [wholeP]
  generalize (H.any fun x => !linkP l l[place l x]!.kind l[place l x]!.body (hasS cuts x)) = r at *
  refine Ctr.enter tblOk func29 rfl (by decide) rfl (nt := 25) rfl rfl rfl rfl ?_
  refine Trip.seq ?_
  apply Trip.reg tblOk
  · repeat' (first | exact rfl | constructor)
  · exact rfl
  refine Trip.seq ?_
  apply Trip.reg tblOk
  · repeat' (first | exact rfl | (apply Rule.sem; intro hγ; with_reducible apply F_call0 (x := .func 56) (B := []) hγ (hspec := c)) | ((with_reducible refine Side.mk ?_); exact .inl rfl) | constructor)
  · exact rfl
  apply Trip.weak (S' := ⟨[(3, .rp [.sl nl 3 (l.map It.pv)]), (4, .rp [.sl nc 1 (cuts.map fun x => sV x)]), (7, .sl H.isEmpty 1 (H.map fun x => sV x)), (8, .sl K.isEmpty 1 (K.map fun x => sV x))], []⟩)
  · refine Weak.trans (S2 := ⟨[(3, .ref 3 0), (4, .ref 4 0), (7, .sl H.isEmpty 1 (H.map fun x => sV x)), (8, .sl K.isEmpty 1 (K.map fun x => sV x))], [(3, .box [.sl nl 3 (l.map It.pv)]), (4, .box [.sl nc 1 (cuts.map fun x => sV x)])]⟩) ?_ ?_
    · apply Weak.keep
      · exact rfl
      · repeat' (first | exact rfl | constructor)
      · repeat' (first | exact rfl | constructor)
      · exact rfl
      · repeat' (first | exact rfl | constructor)
    · refine Weak.turn [3, 4] rfl rfl ?_ ?_
      · repeat' (first | exact rfl | constructor)
      · repeat' (first | exact rfl | constructor)
  refine Trip.seq ?_
  apply Trip.reg tblOk
  · repeat' (first | exact rfl | (apply Rule.sem; intro hγ; with_reducible apply F_call0 (x := .func 58) (B := []) hγ (hspec := c2)) | ((with_reducible refine Side.mk ?_); first | exact .inl rfl | exact fun h => h | exact fun _ h => h) | constructor)
  · exact rfl
  refine Trip.ret ?_
  apply Ret1 []
  · repeat' (first | exact rfl | constructor)
  · exact rfl
  · repeat' (exact cvB (by simp [List.length_map]))
end Go.Proofs.Tryz
namespace Go.Proofs.Tryz
open Go Go.Sym Go.Graft
set_option maxRecDepth 20000
theorem o51a : Extern.findNext f78 = none := by kernel_rfl
theorem o51b : Extern.find f78 = some (Extern.SlicesOverlaps.overlaps #[22, 22] #[4]) := by kernel_rfl
theorem o51c : (f78.name == "runtime.NumGoroutine") = false := by kernel_rfl
theorem o51e : f78.body.isNone = true := by kernel_rfl
theorem ov51 {γ : Bool} {S : St} {dst : Option Nat} {ty : Nat} {pos : String} {aft : Array Edge} {g : Option (Nat × Bool)} {x y z : Operand} {ats : Array TypeId} {o off len n sz : Nat} {isnil nl : Bool} {es xs : List PV} (hγ : γ = true) (hx : OpdO γ S x (.clo (.func 78) [] [])) (hy : OpdO γ S y (.sl nl 3 xs)) (hz : OpdO γ S z (.osl o off len n)) (hne : Side (xs ≠ [])) (ho : S.obj o = some (.arr sz isnil es)) (hs : Side (n = es.length)) (h1 : Nat.beq sz 1 = false) :
    FStep prog ⟨dst, .call { callee := .value x, args := #[y, z], argTypes := ats }, ty, pos, aft, g⟩ S [o] ⟨bV false, []⟩ :=
  F_overlaps (f := 78) (t := 22) (tR := 4) tblOk hγ hx hy hz rfl hne func78 o51c o51e o51a o51b rfl rfl rfl rfl ho hs h1
set_option maxHeartbeats 400000 in
set_option maxRecDepth 4000 in
theorem cInsert (nl : Bool) (es xs : List PV) (i : Nat) (hi : i ≤ es.length) (hx : xs ≠ []) (hp : plainL es = true) (hpx : plainL xs = true) (hc : cellsOkL (cellsOf es) = true) (hcx : cellsOkL (cellsOf xs) = true) (hb : es.length + xs.length ≤ 1000000000000) :
    Ctr prog 46 [.osl PN 0 es.length es.length, iV i, .sl false 3 xs] [.arr 3 nl es] (.osl PN 0 (es.length + xs.length) (es.length + xs.length)) [.arr 3 false (es.take i ++ (xs ++ es.drop i))] [] := by
  have hx0 : 0 < xs.length := List.length_pos_iff.2 hx
  have hp2 : plainL (es.take i ++ (xs ++ es.drop i)) = true := plainL_of fun p h => by
    simp only [List.mem_append] at h
    rcases h with h | h | h
    · exact plainL_mem hp p (List.mem_of_mem_take h)
    · exact plainL_mem hpx p h
    · exact plainL_mem hp p (List.mem_of_mem_drop h)
  refine Ctr.enter tblOk func46 rfl (by decide) rfl (nt := 95) rfl rfl rfl rfl ?_
  refine Trip.seq ?_
  apply Trip.reg tblOk
  · repeat' constructor
  · exact rfl
  refine Trip.seq ?_
  apply Trip.reg tblOk
  · repeat' (first | exact rfl | ((with_reducible refine bokL ?_); omega) | constructor)
  · exact rfl
  apply Trip.regk ⟨[(0, .osl PN 0 es.length es.length), (1, iV i), (2, .sl false 3 xs), (6, nilS), (7, iV xs.length)], [(PN, .arr 3 nl es)]⟩ tblOk
  · repeat' (first | exact rfl | constructor)
  · exact rfl
  · apply Weak.keep
    · exact rfl
    · repeat' (first | exact rfl | constructor)
    · repeat' (first | exact rfl | constructor)
    · exact rfl
    · repeat' (first | exact hp | constructor)
  refine Trip.seq ?_
  refine Trip.seq ?_
  apply Trip.reg tblOk
  · repeat' (first | exact rfl | constructor)
  · exact rfl
  apply Trip.cond (.tmp rfl)
  · intro h
    exfalso
    simp at h
    exact hx h
  intro _
  refine Trip.skip ?_
  apply Trip.regk ⟨[(0, .osl PN 0 es.length es.length), (1, iV i), (2, .sl false 3 xs), (6, nilS), (7, iV xs.length), (8, iV es.length)], [(PN, .arr 3 nl es)]⟩ tblOk
  · repeat' (first | exact rfl | constructor)
  · exact rfl
  · apply Weak.keep
    · exact rfl
    · repeat' (first | exact rfl | constructor)
    · repeat' (first | exact rfl | constructor)
    · exact rfl
    · repeat' (first | exact hp | constructor)
  refine Trip.seq ?_
  refine Trip.seq ?_
  apply Trip.reg tblOk
  · repeat' (first | exact rfl | constructor)
  · exact rfl
  apply Trip.cond (.tmp rfl)
  · intro h
    have h : i = es.length := by simp at h; omega
    subst h
    have e1 : (SObj.arr 3 (nl && xs.isEmpty) (es ++ xs)) = .arr 3 false (es.take es.length ++ (xs ++ es.drop es.length)) := by
      congr 1
      · cases xs <;> simp at hx ⊢
      · simp
    have e2 : PV.osl PN 0 (es ++ xs).length (es ++ xs).length = .osl PN 0 (es.length + xs.length) (es.length + xs.length) := by rw [List.length_append]
    apply Trip.regk ⟨[(6, .osl PN 0 (es.length + xs.length) (es.length + xs.length))], [(PN, .arr 3 false (es.take es.length ++ (xs ++ es.drop es.length)))]⟩ tblOk
    · repeat' (first | exact rfl | ((with_reducible refine Side.mk ?_); first | omega | (dsimp only; omega)) | constructor)
    · exact rfl
    · apply Weak.keep
      · exact rfl
      · repeat' (first | exact rfl | exact e2 | constructor)
      · repeat' (first | exact rfl | exact e1 | constructor)
      · exact rfl
      · repeat' (first | exact hp2 | constructor)
    refine Trip.ret ?_
    refine ⟨_, _, [], [], [.arr 3 false (es.take es.length ++ (xs ++ es.drop es.length))], [], .cons rfl .nil, .one, .cons rfl .nil, .nil, rfl, rfl, rfl, ?_, ?_, ?_⟩
    all_goals repeat' (first | exact rfl | exact hp2 | constructor)
  intro h
  have h : i < es.length := by simp at h; omega
  refine Trip.skip ?_
  apply Trip.openCap (o := PN) rfl
  intro cap hcap hnl
  refine Trip.seq ?_
  refine Trip.seq ?_
  apply Trip.reg tblOk
  · repeat' (first | exact rfl | (apply Rule.sem; intro hγ; apply F_cap tblOk hγ) | ((with_reducible refine Side.mk ?_); omega) | constructor)
  · exact rfl
  apply Trip.cond (.tmp rfl)
  · intro h
    have h : cap < es.length + xs.length := by simp at h; omega
    have q1 : PV.osl 40 0 (((i : Int).toNat - 0) + ((es.length : Int) + xs.length - i).toNat) (((i : Int).toNat - 0) + ((es.length : Int) + xs.length - i).toNat) = .osl 40 0 (es.length + xs.length) (es.length + xs.length) := by
      congr 1 <;> omega
    have q2 : SObj.arr 3 false (es.take ((i : Int).toNat - 0) ++ List.replicate ((es.length : Int) + xs.length - i).toNat (deadE 3)) = .arr 3 false (es.take i ++ List.replicate (es.length + xs.length - i) (deadE 3)) := by
      congr 3 <;> omega
    have hpd : plainL (es.take i ++ List.replicate (es.length + xs.length - i) (deadE 3)) = true := plainL_of fun p h => by
      rcases List.mem_append.1 h with h | h
      · exact plainL_mem hp p (List.mem_of_mem_take h)
      · rw [List.eq_of_mem_replicate h]; rfl
    have hpe : plainL (es.take i ++ (xs ++ List.replicate (es.length - i) (deadE 3))) = true := plainL_of fun p h => by
      simp only [List.mem_append] at h
      rcases h with h | h | h
      · exact plainL_mem hp p (List.mem_of_mem_take h)
      · exact plainL_mem hpx p h
      · rw [List.eq_of_mem_replicate h]; rfl
    have r1 := ins1 es xs (deadE 3) i (by omega)
    have r2 := ins2 es xs (deadE 3) i (by omega)
    have r1' : ∀ nl, SObj.arr 3 nl _ = SObj.arr 3 nl _ := fun nl => congrArg (SObj.arr 3 nl) r1
    have r2' : ∀ nl, SObj.arr 3 nl _ = SObj.arr 3 nl _ := fun nl => congrArg (SObj.arr 3 nl) r2
    apply Trip.regk ⟨[(0, .osl PN 0 es.length es.length), (1, iV i), (2, .sl false 3 xs), (7, iV xs.length), (8, iV es.length), (9, .osl 40 0 (es.length + xs.length) (es.length + xs.length))], [(PN, .arrc 3 nl es cap), (40, .arr 3 false (es.take i ++ List.replicate (es.length + xs.length - i) (deadE 3)))]⟩ tblOk
    · repeat' (first | exact rfl | (apply Rule.sem; intro hγ; apply F_sliceC tblOk hγ) | (apply Rule.sem; intro hγ; apply F_appendOver' tblOk hγ) | ((first | with_reducible refine bokR ?_ | with_reducible refine Side.mk ?_); first | omega | (simp only [hiOf, loOf]; omega)) | constructor)
    · exact rfl
    · apply Weak.keep
      · exact rfl
      · repeat' (first | exact rfl | exact q1 | constructor)
      · repeat' (first | exact rfl | exact q2 | constructor)
      · exact rfl
      · repeat' (first | exact hp | exact hpd | constructor)
    apply Trip.weak (Weak.closeCap (o := PN) rfl)
    apply Trip.regk ⟨[(0, .osl PN 0 es.length es.length), (1, iV i), (2, .sl false 3 xs), (7, iV xs.length), (8, iV es.length), (9, .osl 40 0 (es.length + xs.length) (es.length + xs.length))], [(PN, .arr 3 nl es), (40, .arr 3 false (es.take i ++ (xs ++ List.replicate (es.length - i) (deadE 3))))]⟩ tblOk
    · repeat' (first | exact rfl | (apply Rule.sem; intro hγ; apply F_copy tblOk hγ) | ((first | with_reducible refine bokL ?_ | with_reducible refine Side.mk ?_); first | omega | (simp only [ln]; first | done | omega) | exact okT hcx _) | constructor)
    · exact rfl
    · apply Weak.keep
      · exact rfl
      · repeat' (first | exact rfl | constructor)
      · repeat' (first | exact rfl | exact r1' _ | constructor)
      · exact rfl
      · repeat' (first | exact hp | exact hpe | constructor)
    have hpg : plainL (es.take i ++ (xs ++ es.drop i)) = true := hp2
    apply Trip.drwk ⟨[(9, .osl 40 0 (es.length + xs.length) (es.length + xs.length))], [(PN, .arr 3 nl es), (40, .arr 3 false (es.take i ++ (xs ++ es.drop i)))]⟩ tblOk mixed
    · repeat' (first | exact rfl | (apply Rule.sem; intro hγ; apply F_copy tblOk hγ) | ((first | with_reducible refine bokL ?_ | with_reducible refine Side.mk ?_); first | omega | (simp only [ln]; first | done | omega) | exact okDTT hc _ _ _) | constructor)
    · exact rfl
    · kernel_rfl
    · apply Weak.keep
      · exact rfl
      · repeat' (first | exact rfl | constructor)
      · repeat' (first | exact rfl | exact r2' _ | constructor)
      · exact rfl
      · repeat' (first | exact hp | exact hp2 | constructor)
    apply Trip.regk ⟨[(6, .osl 40 0 (es.length + xs.length) (es.length + xs.length))], [(PN, .arr 3 nl es), (40, .arr 3 false (es.take i ++ (xs ++ es.drop i)))]⟩ tblOk
    · repeat' (first | exact rfl | constructor)
    · exact rfl
    · apply Weak.keep
      · exact rfl
      · repeat' (first | exact rfl | constructor)
      · repeat' (first | exact rfl | constructor)
      · exact rfl
      · repeat' (first | exact hp | exact hp2 | constructor)
    apply Trip.weak (Weak.shift (t' := [(6, .osl PN 0 (es.length + xs.length) (es.length + xs.length))]) PN 40 3 (by decide) (.inl rfl) rfl (by show es.length < _; simp; omega) hp2 (by decide) rfl (by repeat' (first | exact rfl | constructor)))
    refine Trip.ret ?_
    refine ⟨_, _, [], [], [.arr 3 false (es.take i ++ (xs ++ es.drop i))], [], .cons rfl .nil, .one, .cons rfl .nil, .nil, rfl, rfl, rfl, ?_, ?_, ?_⟩
    all_goals repeat' (first | exact rfl | exact hp2 | constructor)
  intro h
  have h : es.length + xs.length ≤ cap := by simp at h; omega
  have hnl : nl = false := by
    cases nl with
    | false => rfl
    | true => have := hnl rfl; omega
  subst hnl
  have hpd : plainL (es ++ List.replicate xs.length (deadE 3)) = true := plainL_of fun p h => by
    rcases List.mem_append.1 h with h | h
    · exact plainL_mem hp p h
    · rw [List.eq_of_mem_replicate h]; rfl
  have hpe : plainL ((es ++ List.replicate xs.length (deadE 3)).take (i + xs.length) ++ es.drop i) = true := plainL_of fun p h => by
    rcases List.mem_append.1 h with h | h
    · exact plainL_mem hpd p (List.mem_of_mem_take h)
    · exact plainL_mem hp p (List.mem_of_mem_drop h)
  have hcd := (congrArg (fun l => cellsOkL (cellsOf l)) (ins3c es xs (deadE 3) i (by omega))).trans (okD hc i)
  have t1 : (SObj.arr 3 false (es ++ List.replicate (((es.length : Int) + xs.length).toNat - es.length) (deadE 3))) = .arr 3 false (es ++ List.replicate xs.length (deadE 3)) := by
    congr 3; omega
  have t2 : PV.osl PN 0 ((es.length : Int) + xs.length).toNat ((es.length : Int) + xs.length).toNat = .osl PN 0 (es.length + xs.length) (es.length + xs.length) := by
    congr 1
  have r3 : ∀ nl, SObj.arr 3 nl _ = SObj.arr 3 nl _ := fun nl => congrArg (SObj.arr 3 nl) (ins3 es xs (deadE 3) i (by omega))
  have r4 : ∀ nl, SObj.arr 3 nl _ = SObj.arr 3 nl _ := fun nl => congrArg (SObj.arr 3 nl) (ins4 es xs (deadE 3) i (by omega))
  refine Trip.skip ?_
  apply Trip.regk ⟨[(0, .osl PN 0 (es.length + xs.length) (es.length + xs.length)), (1, iV i), (2, .sl false 3 xs), (7, iV xs.length), (8, iV es.length)], [(PN, .arr 3 false (es ++ List.replicate xs.length (deadE 3)))]⟩ tblOk
  · repeat' (first | exact rfl | (apply Rule.sem; intro hγ; apply F_sliceUp tblOk hγ) | ((with_reducible refine Side.mk ?_); omega) | constructor)
  · exact rfl
  · apply Weak.keep
    · exact rfl
    · repeat' (first | exact rfl | constructor)
    · repeat' (first | exact rfl | exact t1 | constructor)
    · exact rfl
    · repeat' (first | exact hpd | constructor)
  refine Trip.seq ?_
  refine Trip.seq ?_
  apply Trip.reg tblOk
  · repeat' (first | exact rfl | (apply Rule.sem; intro hγ; with_reducible apply ov51 hγ) | ((first | with_reducible refine bokL ?_ | with_reducible refine Side.mk ?_); first | omega | (simp only [ln]; first | done | omega)) | constructor)
  · exact rfl
  apply Trip.cond (.tmp rfl)
  · intro _
    apply Trip.drwk ⟨[(0, .osl PN 0 (es.length + xs.length) (es.length + xs.length)), (1, iV i), (2, .sl false 3 xs)], [(PN, .arr 3 false ((es ++ List.replicate xs.length (deadE 3)).take (i + xs.length) ++ es.drop i))]⟩ tblOk mixed
    · repeat' (first | exact rfl | (apply Rule.sem; intro hγ; apply F_copy tblOk hγ) | ((first | with_reducible refine bokL ?_ | with_reducible refine Side.mk ?_); first | omega | (simp only [ln]; first | done | omega) | exact hcd) | constructor)
    · exact rfl
    · kernel_rfl
    · apply Weak.keep
      · exact rfl
      · repeat' (first | exact rfl | constructor)
      · repeat' (first | exact rfl | exact r3 _ | constructor)
      · exact rfl
      · repeat' (first | exact hpe | constructor)
    apply Trip.regk ⟨[(0, .osl PN 0 (es.length + xs.length) (es.length + xs.length))], [(PN, .arr 3 false (es.take i ++ (xs ++ es.drop i)))]⟩ tblOk
    · repeat' (first | exact rfl | (apply Rule.sem; intro hγ; apply F_copy tblOk hγ) | ((first | with_reducible refine bokL ?_ | with_reducible refine Side.mk ?_); first | omega | (simp only [ln]; first | done | omega) | exact okT hcx _) | constructor)
    · exact rfl
    · apply Weak.keep
      · exact rfl
      · repeat' (first | exact rfl | constructor)
      · repeat' (first | exact rfl | exact r4 _ | constructor)
      · exact rfl
      · repeat' (first | exact hp2 | constructor)
    refine Trip.seq ?_
    apply Trip.reg tblOk
    · repeat' (first | exact rfl | constructor)
    · exact rfl
    refine Trip.ret ?_
    refine ⟨_, _, [], [], [.arr 3 false (es.take i ++ (xs ++ es.drop i))], [], .cons rfl .nil, .one, .cons rfl .nil, .nil, rfl, rfl, rfl, ?_, ?_, ?_⟩
    all_goals repeat' (first | exact rfl | exact hp2 | constructor)
  · intro h
    exact absurd h (by decide)
end Go.Proofs.Tryz
