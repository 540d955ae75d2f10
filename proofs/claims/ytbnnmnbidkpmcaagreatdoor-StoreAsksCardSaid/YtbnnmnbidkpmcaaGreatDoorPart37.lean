/- A part of the proof: Ho, SymZH, Hi. -/
import Derived.Test.YtbnnmnbidkpmcaaGreatDoorPart36
set_option linter.unusedVariables false
set_option linter.unusedSimpArgs false
namespace Go.Proofs.Tryz
open Go Go.Sym Go.Graft
set_option maxRecDepth 20000
theorem cBadFn (x : Str) (hx : x.length ≤ 1000000000000) : Ctr prog 151 [sV x] [] (bV (!isId x)) [] [] := by
  have c := cIs x hx
  generalize isId x = b at *
  refine Ctr.enter tblOk func151 rfl (by decide) rfl (nt := 6) rfl rfl rfl rfl ?_
  refine Trip.seq ?_
  apply Trip.reg tblOk
  · repeat' constructor
  · exact rfl
  refine Trip.seq ?_
  apply Trip.reg tblOk
  · repeat' (first | exact rfl | (apply Rule.sem; intro hγ; with_reducible apply F_call0 (x := .func 148) (B := []) hγ (hspec := c)) | ((with_reducible refine Side.mk ?_); exact .inl rfl) | constructor)
  · exact rfl
  refine Trip.ret ?_
  apply Ret1 []
  · repeat' (first | exact rfl | constructor)
  · exact rfl
  · repeat' (exact cvB (by simp only [List.length_map]))
theorem cComE (nl : Bool) (c : Com) (h1 : c.tree.length ≤ 1000000000) (h2 : c.pars.length ≤ 1000000000) (h3 : ∀ p ∈ c.pars, p.length ≤ 1000000000) (h4 : c.aut.name.length ≤ 1000000000 ∧ c.aut.mail.length ≤ 1000000000) (h5 : c.com.name.length ≤ 1000000000 ∧ c.com.mail.length ≤ 1000000000) (h6 : c.text.length ≤ 1000000000) : Ctr prog 118 [c.pv nl] [] (iV (comE c)) [] [] := by
  have k1 := cBadFn c.tree (by omega)
  have k2 := cContainsFuncS nl c.pars 151 [] rfl (fun p => !isId p) (by omega) (fun x hx => cBadFn x (by have := h3 x hx; omega))
  have k3 := cSomebody c.aut.name c.aut.mail c.aut.time c.aut.zone (by omega) (by omega)
  have k4 := cSomebody c.com.name c.com.mail c.com.time c.com.zone (by omega) (by omega)
  have k5 := sContains c.text [0] (by omega)
  rw [contains_hasZ] at k5
  have hb : comBad c = (!isId c.tree || c.pars.any (fun p => !isId p) || !perOk c.aut.name c.aut.mail c.aut.time c.aut.zone || !perOk c.com.name c.com.mail c.com.time c.com.zone || hasZ c.text) := rfl
  rw [comE]
  obtain ⟨tree, pars, ⟨an, am, at', az⟩, ⟨cn, cm, ct, cz⟩, text⟩ := c
  dsimp only at *
  generalize comBad ⟨tree, pars, ⟨an, am, at', az⟩, ⟨cn, cm, ct, cz⟩, text⟩ = cb at *
  generalize isId tree = b1 at *
  generalize (pars.any fun p => !isId p) = b2 at *
  generalize perOk an am at' az = b3 at *
  generalize perOk cn cm ct cz = b4 at *
  generalize hasZ text = b5 at *
  refine Ctr.enter tblOk func118 rfl (by decide) rfl (nt := 58) rfl rfl rfl rfl ?_
  refine Trip.seq ?_
  apply Trip.reg tblOk
  · repeat' (first | exact rfl | constructor)
  · exact rfl
  refine Trip.seq ?_
  apply Trip.reg tblOk
  · repeat' constructor
  · exact rfl
  refine Trip.seq ?_
  refine Trip.seq ?_
  apply Trip.reg tblOk
  · repeat' (first | exact rfl | (apply Rule.sem; intro hγ; with_reducible apply F_call0 (x := .tmp 7) (B := []) hγ (hspec := k1)) | exact convL_plain (by assumption) | (apply Rule.sem; intro hγ; with_reducible apply F_call0 (x := .func 58) (B := []) hγ (hspec := k2)) | (apply Rule.sem; intro hγ; with_reducible apply F_call0 (dst := some 20) (x := .func 152) (B := []) hγ (hspec := k3)) | (apply Rule.sem; intro hγ; with_reducible apply F_call0 (dst := some 26) (x := .func 152) (B := []) hγ (hspec := k4)) | (apply Rule.sem; intro hγ; with_reducible apply F_call0 (x := .func 153) (B := []) hγ (hspec := k5)) | ((with_reducible refine Side.mk ?_); first | exact .inl rfl | exact fun h => h | exact fun _ h => congrArg Bool.not h) | constructor)
  · exact rfl
  apply Trip.cond (.tmp rfl)
  · intro h
    have h : cb = true := by rw [hb]; exact h
    rw [if_pos h]
    refine Trip.seq ?_
    apply Trip.reg tblOk
    · repeat' constructor
    · exact rfl
    refine Trip.ret ?_
    apply Ret1 []
    · repeat' (first | exact rfl | constructor)
    · exact rfl
    · repeat' constructor
  intro h
  have h : cb = false := by rw [hb]; exact h
  rw [if_neg (by rw [h]; simp)]
  refine Trip.skip ?_
  refine Trip.seq ?_
  refine Trip.seq ?_
  apply Trip.reg tblOk
  · repeat' (first | exact rfl | ((with_reducible refine Side.mk ?_); first | exact fun h => h | exact fun _ h => congrArg Bool.not h) | constructor)
  · exact rfl
  apply Trip.cond (.tmp rfl)
  · intro h
    have h : (4096 : Int) < text.length ∨ (8 : Int) < pars.length := by simpa using h
    rw [if_pos h]
    refine Trip.seq ?_
    apply Trip.reg tblOk
    · repeat' constructor
    · exact rfl
    refine Trip.ret ?_
    apply Ret1 []
    · repeat' (first | exact rfl | constructor)
    · exact rfl
    · repeat' constructor
  intro h
  have h : ¬ ((4096 : Int) < text.length ∨ (8 : Int) < pars.length) := by simpa using h
  rw [if_neg h]
  refine Trip.skip ?_
  refine Trip.seq ?_
  apply Trip.reg tblOk
  · repeat' (first | exact rfl | (apply Rule.sem; intro hγ; with_reducible apply F_makeMap) | constructor)
  · exact rfl
  refine Trip.seq ?_
  refine Trip.seq ?_
  apply Trip.reg tblOk
  · repeat' (first | exact rfl | constructor)
  · exact rfl
  refine Trip.block ?_
  apply Trip.loop (fun (i : Nat) => ⟨[(4, .mref 44), (46, .sl nl 1 (pars.map fun x => sV x)), (47, iV pars.length), (48, iV i)], [(44, .map ((seenN pars i).1.map strK) ((seenN pars i).2.map fun b => bV b))]⟩) (fun (i : Nat) => i ≤ pars.length ∧ ∀ j, j < i → dupE pars j = 0) (fun (i : Nat) => pars.length - i) (0)
  · exact ⟨Nat.zero_le _, fun j hj => absurd hj (by omega)⟩
  · apply Weak.keep
    · exact rfl
    · repeat' (first | exact rfl | (refine vI ?_; first | omega | (simp; done) | (simp; omega) | (simp only [List.length_map] at *; omega)) | constructor)
    · repeat' (first | exact rfl | constructor)
    · exact rfl
    · repeat' (first | exact rfl | constructor)
  intro i hi
  obtain ⟨hi, hj⟩ := hi
  refine Trip.seq ?_
  apply Trip.reg tblOk
  · repeat' (first | exact rfl | constructor)
  · exact rfl
  refine Trip.seq ?_
  apply Trip.cond (.tmp rfl)
  · intro h
    have h : i < pars.length := by simp at h; omega
    have hlen := seenN_len pars i
    have hval := seenN_val pars pars[i]! i (by omega)
    have hd : dupE pars i = if mval (seenN pars i).1 (seenN pars i).2 false pars[i]! = true then 6 else 0 := by rw [hval]; rfl
    have hst := fun (h0 : dupE pars i ≠ 0) => firstE_stop (n := pars.length) h hj h0
    have hstep : seenN pars (i + 1) = (mkeys (seenN pars i).1 pars[i]!, mset (seenN pars i).1 (seenN pars i).2 pars[i]! true) := rfl
    generalize hq2 : seenN pars (i + 1) = q2 at *
    generalize seenN pars i = q at *
    obtain ⟨ks, bs⟩ := q
    subst hstep
    dsimp only at *
    generalize hmv : mval ks bs false pars[i]! = mv at *
    refine Trip.skip ?_
    refine Trip.seq ?_
    refine Trip.block ?_
    refine Trip.seq ?_
    apply Trip.reg tblOk
    · repeat' (first | exact rfl | exact idx_map _ _ _ (by show _ < _; first | omega | (simp only [List.length_map] at *; omega)) | ((with_reducible refine Side.mk ?_); (simp only [ln]; first | done | omega)) | constructor)
    · exact rfl
    refine Trip.seq ?_
    refine Trip.seq ?_
    apply Trip.reg tblOk
    · repeat' (first | exact rfl | (apply Rule.sem; intro hγ; with_reducible apply F_lookup (K := strK) (f := bV) (z := false) (zv := .bool false) tblOk hγ (hz := zBool) (hzf := fun _ _ _ => .v _ _)) | exact KeyLaw.str tblOk rfl rfl | ((with_reducible refine Side.mk ?_); omega) | constructor)
    · exact rfl
    apply Trip.cond (.tmp rfl)
    · intro h7
      have h7 : mv = true := by rw [← hmv]; exact h7
      have hd : dupE pars i = 6 := by rw [hd, if_pos h7]
      rw [hst (by omega), hd]
      refine Trip.seq ?_
      apply Trip.reg tblOk
      · repeat' constructor
      · exact rfl
      refine Trip.ret ?_
      apply Ret1 []
      · repeat' (first | exact rfl | constructor)
      · exact rfl
      · repeat' constructor
    intro h7
    have h7 : mv = false := by rw [← hmv]; exact h7
    have hd : dupE pars i = 0 := by rw [hd, h7]; rfl
    refine Trip.skip ?_
    apply Trip.reg tblOk
    · repeat' (first | exact rfl | (apply Rule.sem; intro hγ; with_reducible apply F_mapUpdate (K := strK) (f := bV) tblOk hγ) | exact KeyLaw.str tblOk rfl rfl | ((with_reducible refine Side.mk ?_); omega) | constructor)
    · exact rfl
    apply Trip.reg tblOk
    · repeat' (first | exact rfl | ((with_reducible refine Side.mk ?_); omega) | constructor)
    · exact rfl
    refine ⟨i + 1, ?_, ?_, ?_⟩
    · exact ⟨by omega, fun j h3 => (Nat.lt_succ_iff_lt_or_eq.1 h3).elim (hj j) (fun e => e ▸ hd)⟩
    · first | omega | (dsimp only at *; omega)
    · apply Weak.keep
      · exact rfl
      · repeat' (first | exact rfl | constructor)
      · repeat' (first | exact rfl | (rw [hq2]; rfl) | constructor)
      · exact rfl
      · repeat' (first | exact plainL_map _ (fun _ => rfl) _ | constructor)
  intro h
  have h : i = pars.length := by simp at h; omega
  subst h
  rw [firstE_zero hj]
  refine Trip.exit ?_
  refine Trip.seq ?_
  apply Trip.reg tblOk
  · repeat' constructor
  · exact rfl
  refine Trip.ret ?_
  apply Ret1 []
  · repeat' (first | exact rfl | constructor)
  · exact rfl
  · repeat' constructor
theorem cTagged (s : Str) (hs : s.length ≤ 1000000000000) : Ctr prog 154 [sV s] [] (bV (tagged s)) [] [] := by
  refine Ctr.enter tblOk func154 rfl (by decide) rfl (nt := 22) rfl rfl rfl rfl ?_
  refine Trip.seq ?_
  apply Trip.reg tblOk
  · repeat' constructor
  · exact rfl
  refine Trip.seq ?_
  refine Trip.seq ?_
  apply Trip.reg tblOk
  · repeat' (first | exact rfl | constructor)
  · exact rfl
  refine Trip.block ?_
  apply Trip.loop (fun (i : Nat) => ⟨[(0, sV s), (5, iV s.length), (6, iV i)], []⟩) (fun (i : Nat) => i ≤ s.length ∧ ∀ j, j < i → decide (((s.getD j 0).toNat : Int) ≤ 32) = false) (fun (i : Nat) => s.length - i) (0)
  · exact ⟨Nat.zero_le _, fun j hj => absurd hj (by omega)⟩
  · apply Weak.keep
    · exact rfl
    · repeat' (first | exact rfl | constructor)
    · repeat' constructor
    · exact rfl
    · repeat' constructor
  intro i hi
  obtain ⟨hi, hj⟩ := hi
  refine Trip.seq ?_
  apply Trip.reg tblOk
  · repeat' (first | exact rfl | constructor)
  · exact rfl
  refine Trip.seq ?_
  apply Trip.cond (.tmp rfl)
  · intro h
    have h : i < s.length := by simp at h; omega
    refine Trip.skip ?_
    refine Trip.seq ?_
    refine Trip.block ?_
    refine Trip.seq ?_
    apply Trip.reg tblOk
    · repeat' (first | exact rfl | constructor)
    · exact rfl
    refine Trip.seq ?_
    apply Trip.reg tblOk
    · repeat' (first | exact rfl | ((with_reducible refine Side.mk ?_); omega) | constructor)
    · exact rfl
    apply Trip.cond (.tmp rfl)
    · intro h2
      have h2 : decide (((s.getD i 0).toNat : Int) ≤ 32) = true := h2
      rw [tagged_no h h2]
      refine Trip.seq ?_
      apply Trip.reg tblOk
      · repeat' constructor
      · exact rfl
      refine Trip.ret ?_
      apply Ret1 []
      · repeat' (first | exact rfl | constructor)
      · exact rfl
      · repeat' (exact cvB (by simp only [List.length_map]))
    intro h2
    have h2 : decide (((s.getD i 0).toNat : Int) ≤ 32) = false := h2
    refine Trip.skip ?_
    apply Trip.reg tblOk
    · repeat' (first | exact rfl | ((with_reducible refine Side.mk ?_); omega) | constructor)
    · exact rfl
    refine ⟨i + 1, ?_, ?_, ?_⟩
    · exact ⟨by omega, fun j h3 => (Nat.lt_succ_iff_lt_or_eq.1 h3).elim (hj j) (fun e => e ▸ h2)⟩
    · first | omega | (dsimp only at *; omega)
    · apply Weak.keep
      · exact rfl
      · repeat' (first | exact rfl | constructor)
      · repeat' constructor
      · exact rfl
      · repeat' constructor
  intro h
  have h : i = s.length := by simp at h; omega
  subst h
  rw [tagged_yes hj]
  refine Trip.exit ?_
  refine Trip.seq ?_
  apply Trip.reg tblOk
  · repeat' (first | exact rfl | ((with_reducible refine Side.mk ?_); first | exact fun h => h | exact fun _ h => h) | constructor)
  · exact rfl
  refine Trip.ret ?_
  apply Ret1 []
  · repeat' (first | exact rfl | constructor)
  · exact rfl
  · repeat' (exact cvB (by simp only [List.length_map]))
theorem cTgE (t : Tg) (h1 : t.obj.length ≤ 1000000000) (h3 : t.name.length ≤ 1000000000) (h4 : t.by'.name.length ≤ 1000000000 ∧ t.by'.mail.length ≤ 1000000000) (h6 : t.text.length ≤ 1000000000) : Ctr prog 120 [t.pv] [] (iV (tgE t)) [] [] := by
  have k1 := cIs t.obj (by omega)
  have k2 := cWord t.kind
  have k3 := cTagged t.name (by omega)
  have k4 := cSomebody t.by'.name t.by'.mail t.by'.time t.by'.zone (by omega) (by omega)
  have k5 := sContains t.text [0] (by omega)
  rw [contains_hasZ] at k5
  have hb : tgBad t = (!isId t.obj || decide (wordK t.kind = []) || !tagged t.name || !perOk t.by'.name t.by'.mail t.by'.time t.by'.zone || hasZ t.text) := rfl
  rw [tgE]
  obtain ⟨ob, kind, name, ⟨an, am, at', az⟩, text⟩ := t
  dsimp only at *
  generalize tgBad ⟨ob, kind, name, ⟨an, am, at', az⟩, text⟩ = cb at *
  generalize isId ob = b1 at *
  generalize wordK kind = w at *
  generalize tagged name = b2 at *
  generalize perOk an am at' az = b3 at *
  generalize hasZ text = b5 at *
  refine Ctr.enter tblOk func120 rfl (by decide) rfl (nt := 34) rfl rfl rfl rfl ?_
  refine Trip.seq ?_
  apply Trip.reg tblOk
  · repeat' (first | exact rfl | constructor)
  · exact rfl
  refine Trip.seq ?_
  refine Trip.seq ?_
  apply Trip.reg tblOk
  · repeat' (first | exact rfl | (apply Rule.sem; intro hγ; with_reducible apply F_call0 (x := .func 148) (B := []) hγ (hspec := k1)) | (apply Rule.sem; intro hγ; with_reducible apply F_call0 (x := .func 107) (B := []) hγ (hspec := k2)) | (apply Rule.sem; intro hγ; with_reducible apply F_call0 (x := .func 154) (B := []) hγ (hspec := k3)) | (apply Rule.sem; intro hγ; with_reducible apply F_call0 (x := .func 152) (B := []) hγ (hspec := k4)) | (apply Rule.sem; intro hγ; with_reducible apply F_call0 (x := .func 153) (B := []) hγ (hspec := k5)) | ((with_reducible refine Side.mk ?_); first | exact .inl rfl | exact fun h => h | exact fun _ h => congrArg Bool.not h) | constructor)
  · exact rfl
  apply Trip.cond (.tmp rfl)
  · intro h
    have h : cb = true := by rw [hb]; exact h
    rw [if_pos h]
    refine Trip.seq ?_
    apply Trip.reg tblOk
    · repeat' constructor
    · exact rfl
    refine Trip.ret ?_
    apply Ret1 []
    · repeat' (first | exact rfl | constructor)
    · exact rfl
    · repeat' constructor
  intro h
  have h : cb = false := by rw [hb]; exact h
  rw [if_neg (by rw [h]; simp)]
  refine Trip.skip ?_
  refine Trip.seq ?_
  refine Trip.seq ?_
  apply Trip.reg tblOk
  · repeat' (first | exact rfl | constructor)
  · exact rfl
  apply Trip.cond (.tmp rfl)
  · intro h
    have h : (4096 : Int) < text.length := by simpa using h
    rw [if_pos h]
    refine Trip.seq ?_
    apply Trip.reg tblOk
    · repeat' constructor
    · exact rfl
    refine Trip.ret ?_
    apply Ret1 []
    · repeat' (first | exact rfl | constructor)
    · exact rfl
    · repeat' constructor
  intro h
  have h : ¬ (4096 : Int) < text.length := by simpa using h
  rw [if_neg h]
  refine Trip.skip ?_
  refine Trip.seq ?_
  apply Trip.reg tblOk
  · repeat' constructor
  · exact rfl
  refine Trip.ret ?_
  apply Ret1 []
  · repeat' (first | exact rfl | constructor)
  · exact rfl
  · repeat' constructor
end Go.Proofs.Tryz
namespace Go.Sym
open Go.RowKit
section
variable {P : Program} {T : Tbl} {fr : Fr} {S S' : St} {L : LMap} {a : Act} {w : World} {γ : Bool}
variable {dst : Option Tmp} {ty : Nat} {pos : String} {aft : Array Edge} {g : Option (Nat × Bool)}
theorem und_iface (hT : TOk P T) {t : TypeId} {ti : TI} (h : look T t = some ti) (hd : ti.d = .iface) : ∃ ms, P.underlying t = some (.interface ms) := by
  obtain ⟨info, desc, _, h2, h3, _⟩ := hT.get h
  rw [hd] at h3
  cases desc <;> simp [TD.of] at h3
  exact ⟨_, h2⟩
theorem equalIn_nilI {t : TypeId} {ms : Array (String × TypeId)} (h : P.underlying t = some (.interface ms)) (d : Nat) : (Op.equalIn (d + 1) t .nilIface .nilIface).run P w = .ok true w := by
  simp [Op.equalIn, run_underlying h]
theorem F_eqNil [Globs P] (hT : TOk P T) (hγ : γ = true) {t t' : TypeId} {x : Operand} {ti : TI} (hx : OpdO γ S x (.v .nilIface)) (hl : look T t = some ti) (hd : ti.d = .iface) :
    FStep P ⟨dst, .binOp .eql t x (.const .nilIface) t', ty, pos, aft, g⟩ S [] ⟨bV true, []⟩ := by
  refine FStep.val fun fr S' L a w ht hn hR => ?_
  have h1 := (hx.rep hγ hR (ht x (by simp [Op.operands]))).inv_v
  obtain ⟨ms, hu⟩ := und_iface hT hl hd
  refine ⟨.bool true, ?_, .v _ _⟩
  have he := run_eql_of (P := P) (w := w) (t := t) (x := .nilIface) (y := .nilIface) (by rfl) (equalIn_nilI hu 9999)
  have h2 : a.eval (.const .nilIface) = .nilIface := rfl
  simp only [execOp, Sem.run_bind, h1, h2, eqGuard]
  simp [he]
end
end Go.Sym
namespace Go.Proofs.Tryz
open Go Go.Sym Go.Graft
set_option maxRecDepth 20000
theorem cDigits (s : Str) (hs : s.length ≤ 1000000000000) : Ctr prog 183 [sV s, iV 18] [] (.tup [iV (if numOk s = true then ((valD s : Nat) : Int) else 0), bV (numOk s)]) [] [] := by
  have hnb : numBad s = (decide ((s.length : Int) < 1) || decide (18 < (s.length : Int)) || (decide (1 < (s.length : Int)) && decide (((s.getD 0 0).toNat : Int) = 48))) := rfl
  refine Ctr.enter tblOk func183 rfl (by decide) rfl (nt := 52) rfl rfl rfl rfl ?_
  refine Trip.seq ?_
  apply Trip.reg tblOk
  · repeat' constructor
  · exact rfl
  refine Trip.seq ?_
  refine Trip.seq ?_
  apply Trip.reg tblOk
  · repeat' (first | exact rfl | (apply Rule.under tblOk; intro hγ; with_reducible apply Rule.index) | ((with_reducible refine Side.mk ?_); first | exact fun h => h | exact fun _ h => congrArg Bool.not h | (intro h1 h2; rw [h1, h2]; rfl) | exact fun _ => hγ | (have h2 := hγ; simp only [gpick, cond_true, cond_false, decide_eq_true_eq, Bool.and_eq_true, Bool.or_eq_true, Bool.not_eq_true', Bool.not_eq_false', Bool.or_eq_false_iff, decide_eq_false_iff_not, List.length_map] at h2; (try simp only [List.length_map]); omega)) | constructor)
  · exact rfl
  apply Trip.cond (.tmp rfl)
  · intro h
    have h : numBad s = true := h
    rw [numOk_bad h]
    refine Trip.seq ?_
    apply Trip.reg tblOk
    · repeat' constructor
    · exact rfl
    refine Trip.ret ?_
    apply Ret2 []
    · repeat' (first | exact rfl | constructor)
    · exact rfl
    · repeat' constructor
    · repeat' (exact cvB (by simp only [List.length_map]))
  intro h
  have hb : numBad s = false := h
  refine Trip.skip ?_
  refine Trip.seq ?_
  refine Trip.seq ?_
  apply Trip.reg tblOk
  · repeat' (first | exact rfl | constructor)
  · exact rfl
  refine Trip.block ?_
  apply Trip.loop (fun (i : Nat) => ⟨[(0, sV s), (29, iV s.length), (30, iV i)], []⟩) (fun (i : Nat) => i ≤ s.length ∧ ∀ j, j < i → badD (s.getD j 0) = false) (fun (i : Nat) => s.length - i) (0)
  · exact ⟨Nat.zero_le _, fun j hj => absurd hj (by omega)⟩
  · apply Weak.keep
    · exact rfl
    · repeat' (first | exact rfl | constructor)
    · repeat' constructor
    · exact rfl
    · repeat' constructor
  intro i hi
  obtain ⟨hi, hj⟩ := hi
  refine Trip.seq ?_
  apply Trip.reg tblOk
  · repeat' (first | exact rfl | constructor)
  · exact rfl
  refine Trip.seq ?_
  apply Trip.cond (.tmp rfl)
  · intro h
    have h : i < s.length := by simp at h; omega
    refine Trip.skip ?_
    refine Trip.seq ?_
    refine Trip.block ?_
    refine Trip.seq ?_
    apply Trip.reg tblOk
    · repeat' (first | exact rfl | constructor)
    · exact rfl
    refine Trip.seq ?_
    apply Trip.reg tblOk
    · repeat' (first | exact rfl | (apply Rule.under tblOk; intro hγ; with_reducible apply Rule.index) | ((with_reducible refine Side.mk ?_); first | omega | exact fun h => h | exact fun _ h => congrArg Bool.not h | exact fun _ => hγ) | constructor)
    · exact rfl
    apply Trip.cond (.tmp rfl)
    · intro h2
      have h2 : badD (s.getD i 0) = true := h2
      rw [numOk_false h h2]
      refine Trip.seq ?_
      apply Trip.reg tblOk
      · repeat' constructor
      · exact rfl
      refine Trip.ret ?_
      apply Ret2 []
      · repeat' (first | exact rfl | constructor)
      · exact rfl
      · repeat' constructor
      · repeat' (exact cvB (by simp only [List.length_map]))
    intro h2
    have h2 : badD (s.getD i 0) = false := h2
    refine Trip.skip ?_
    apply Trip.reg tblOk
    · repeat' (first | exact rfl | ((with_reducible refine Side.mk ?_); omega) | constructor)
    · exact rfl
    refine ⟨i + 1, ?_, ?_, ?_⟩
    · exact ⟨by omega, fun j h3 => (Nat.lt_succ_iff_lt_or_eq.1 h3).elim (hj j) (fun e => e ▸ h2)⟩
    · first | omega | (dsimp only at *; omega)
    · apply Weak.keep
      · exact rfl
      · repeat' (first | exact rfl | constructor)
      · repeat' constructor
      · exact rfl
      · repeat' constructor
  intro h
  have h : i = s.length := by simp at h; omega
  subst h
  have hok := numOk_true hb hj
  have hl := numOk_len hok
  have hne : s ≠ [] := fun e => by rw [e] at hl; simp at hl
  have c1 := sAtoi s _ hl.2 (atoi_val hne (numOk_all hok))
  refine Trip.exit ?_
  rw [hok, if_pos rfl]
  refine Trip.seq ?_
  apply Trip.reg tblOk
  · repeat' (first | exact rfl | (apply Rule.sem; intro hγ; with_reducible apply F_call0 (x := .func 208) (B := []) hγ (hspec := c1)) | ((with_reducible refine Side.mk ?_); exact .inl rfl) | constructor)
  · exact rfl
  refine Trip.seq ?_
  apply Trip.drw tblOk mixed
  · repeat' (first | exact rfl | (apply Rule.sem; intro hγ; with_reducible apply F_eqNil tblOk hγ) | constructor)
  · exact rfl
  · kernel_rfl
  refine Trip.ret ?_
  apply Ret2 []
  · repeat' (first | exact rfl | constructor)
  · exact rfl
  · repeat' constructor
  · repeat' (exact cvB (by simp only [List.length_map]))
theorem cZone (s : Str) (hs : s.length ≤ 1000000000000) : Ctr prog 184 [sV s] [] (.tup [iV (zonV s), bV (zonOk s)]) [] [] := by
  have hnb : zonBad s = (decide (¬ (s.length : Int) = 5) || (decide (¬ ((s.getD 0 0).toNat : Int) = 43) && decide (¬ ((s.getD 0 0).toNat : Int) = 45)) || decide (s = [45, 48, 48, 48, 48])) := rfl
  have hno : zonOk s = false → zonV s = 0 := fun h => by rw [zonV, if_pos h]
  refine Ctr.enter tblOk func184 rfl (by decide) rfl (nt := 65) rfl rfl rfl rfl ?_
  refine Trip.seq ?_
  apply Trip.reg tblOk
  · repeat' constructor
  · exact rfl
  refine Trip.seq ?_
  refine Trip.seq ?_
  apply Trip.reg tblOk
  · repeat' (first | exact rfl | (apply Rule.under tblOk; intro hγ; with_reducible apply Rule.index) | ((with_reducible refine Side.mk ?_); first | exact fun h => h | exact fun _ h => congrArg Bool.not h | (intro h1 h2; rw [h1, h2]; rfl) | exact fun _ => hγ | (have h2 := hγ; simp only [gpick, cond_true, cond_false, decide_eq_true_eq, Bool.and_eq_true, Bool.or_eq_true, Bool.not_eq_true', Bool.not_eq_false', Bool.or_eq_false_iff, decide_eq_false_iff_not, List.length_map] at h2; (try simp only [List.length_map]); omega)) | constructor)
  · exact rfl
  apply Trip.cond (.tmp rfl)
  · intro h
    have h : zonBad s = true := by rw [hnb]; simpa using h
    rw [hno (zonOk_bad h), zonOk_bad h]
    refine Trip.seq ?_
    apply Trip.reg tblOk
    · repeat' constructor
    · exact rfl
    refine Trip.ret ?_
    apply Ret2 []
    · repeat' (first | exact rfl | constructor)
    · exact rfl
    · repeat' constructor
    · repeat' (exact cvB (by simp only [List.length_map]))
  intro h
  have hb : zonBad s = false := by rw [hnb]; simpa using h
  have hl := zonBad_len hb
  refine Trip.skip ?_
  refine Trip.seq ?_
  refine Trip.seq ?_
  apply Trip.reg tblOk
  · repeat' constructor
  · exact rfl
  refine Trip.block ?_
  apply Trip.loop (fun (i : Nat) => ⟨[(0, sV s), (4, iV i)], []⟩) (fun (i : Nat) => 1 ≤ i ∧ i ≤ 5 ∧ ∀ j, 1 ≤ j → j < i → badD (s.getD j 0) = false) (fun (i : Nat) => 5 - i) (1)
  · exact ⟨Nat.le_refl _, by omega, fun j h1 h2 => absurd h1 (by omega)⟩
  · apply Weak.keep
    · exact rfl
    · repeat' (first | exact rfl | constructor)
    · repeat' constructor
    · exact rfl
    · repeat' constructor
  intro i hi
  obtain ⟨hi1, hi, hj⟩ := hi
  refine Trip.seq ?_
  refine Trip.seq ?_
  apply Trip.reg tblOk
  · repeat' (first | exact rfl | constructor)
  · exact rfl
  apply Trip.cond (.tmp rfl)
  · intro h
    have h : i < 5 := by simp at h; omega
    refine Trip.skip ?_
    refine Trip.seq ?_
    refine Trip.block ?_
    refine Trip.seq ?_
    apply Trip.reg tblOk
    · repeat' (first | exact rfl | (apply Rule.under tblOk; intro hγ; with_reducible apply Rule.index) | ((with_reducible refine Side.mk ?_); first | omega | exact fun h => h | exact fun _ h => congrArg Bool.not h | exact fun _ => hγ) | constructor)
    · exact rfl
    apply Trip.cond (.tmp rfl)
    · intro h2
      have h2 : badD (s.getD i 0) = true := h2
      rw [hno (zonOk_dig hl hi1 h h2), zonOk_dig hl hi1 h h2]
      refine Trip.seq ?_
      apply Trip.reg tblOk
      · repeat' constructor
      · exact rfl
      refine Trip.ret ?_
      apply Ret2 []
      · repeat' (first | exact rfl | constructor)
      · exact rfl
      · repeat' constructor
      · repeat' (exact cvB (by simp only [List.length_map]))
    intro h2
    have h2 : badD (s.getD i 0) = false := h2
    refine Trip.skip ?_
    apply Trip.reg tblOk
    · repeat' (first | exact rfl | ((with_reducible refine Side.mk ?_); omega) | constructor)
    · exact rfl
    refine ⟨i + 1, ?_, ?_, ?_⟩
    · exact ⟨by omega, by omega, fun j h1 h3 => (Nat.lt_succ_iff_lt_or_eq.1 h3).elim (hj j h1) (fun e => e ▸ h2)⟩
    · first | omega | (dsimp only at *; omega)
    · apply Weak.keep
      · exact rfl
      · repeat' (first | exact rfl | constructor)
      · repeat' constructor
      · exact rfl
      · repeat' constructor
  intro h
  have h : i = 5 := by simp at h; omega
  subst h
  have hok := zonOk_end hb hj
  have hv := zon_vals hl hj
  obtain ⟨hd1, hd2⟩ := zon_digs hl hj
  have e3 : (s.take s.length).drop 3 = s.drop 3 := by rw [List.take_length]
  have e1 : (s.take 3).drop 1 = (s.drop 1).take 2 := by rw [List.drop_take]
  have c1 := sAtoi ((s.take 3).drop 1) (zonH s) (by rw [e1, List.length_take]; omega) (by rw [e1]; exact atoi_val (fun e => by have := congrArg List.length e; rw [List.length_take, List.length_drop] at this; simp at this; omega) hd2)
  have c2 := sAtoi ((s.take s.length).drop 3) (zonM s) (by rw [e3, List.length_drop]; omega) (by rw [e3]; exact atoi_val (fun e => by have := congrArg List.length e; rw [List.length_drop] at this; simp at this; omega) hd1)
  rw [zonV, hok]
  generalize zonM s = m at *
  generalize zonH s = hh at *
  refine Trip.exit ?_
  refine Trip.seq ?_
  apply Trip.reg tblOk
  · repeat' (first | exact rfl | (apply Rule.sem; intro hγ; with_reducible apply F_call0 (x := .func 208) (B := []) hγ (hspec := c1)) | ((first | with_reducible refine bok ?_ | with_reducible refine Side.mk ?_); first | omega | exact .inl rfl) | constructor)
  · exact rfl
  refine Trip.seq ?_
  apply Trip.reg tblOk
  · repeat' (first | exact rfl | (apply Rule.sem; intro hγ; with_reducible apply F_call0 (x := .func 208) (B := []) hγ (hspec := c2)) | ((first | with_reducible refine bokL ?_ | with_reducible refine Side.mk ?_); first | omega | exact .inl rfl) | constructor)
  · exact rfl
  refine Trip.seq ?_
  refine Trip.seq ?_
  apply Trip.reg tblOk
  · repeat' (first | exact rfl | constructor)
  · exact rfl
  apply Trip.cond (.tmp rfl)
  · intro h
    have h : ¬ m < 60 := by simp at h; omega
    rw [decide_eq_false h, if_pos rfl]
    refine Trip.seq ?_
    apply Trip.reg tblOk
    · repeat' constructor
    · exact rfl
    refine Trip.ret ?_
    apply Ret2 []
    · repeat' (first | exact rfl | constructor)
    · exact rfl
    · repeat' constructor
    · repeat' (exact cvB (by simp only [List.length_map]))
  intro h
  have h : m < 60 := by simp at h; omega
  rw [decide_eq_true h, if_neg (by simp)]
  refine Trip.skip ?_
  refine Trip.seq ?_
  refine Trip.seq ?_
  apply Trip.reg tblOk
  · repeat' (first | exact rfl | ((with_reducible refine Side.mk ?_); omega) | constructor)
  · exact rfl
  apply Trip.cond (.tmp rfl)
  · intro h2
    have h2 : ((s.getD 0 0).toNat : Int) = 45 := by simpa using h2
    rw [if_pos h2]
    refine Trip.seq ?_
    apply Trip.reg tblOk
    · repeat' (first | exact rfl | ((with_reducible refine Side.mk ?_); omega) | constructor)
    · exact rfl
    refine Trip.ret ?_
    apply Ret2 []
    · repeat' (first | exact rfl | constructor)
    · exact rfl
    · repeat' constructor
    · repeat' (exact cvB (by simp only [List.length_map]))
  intro h2
  have h2 : ¬ ((s.getD 0 0).toNat : Int) = 45 := by simpa using h2
  rw [if_neg h2]
  refine Trip.skip ?_
  refine Trip.seq ?_
  apply Trip.reg tblOk
  · repeat' (first | exact rfl | ((with_reducible refine Side.mk ?_); omega) | constructor)
  · exact rfl
  refine Trip.ret ?_
  apply Ret2 []
  · repeat' (first | exact rfl | constructor)
  · exact rfl
  · repeat' constructor
  · repeat' (exact cvB (by simp only [List.length_map]))
end Go.Proofs.Tryz
