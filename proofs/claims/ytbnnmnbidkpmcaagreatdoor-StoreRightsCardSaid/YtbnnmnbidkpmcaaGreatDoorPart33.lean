/- A part of the proof: Hu, Hv. -/
import Derived.Test.YtbnnmnbidkpmcaaGreatDoorPart32
set_option linter.unusedVariables false
set_option linter.unusedSimpArgs false
namespace Go.Proofs.Tryz
open Go Go.Sym Go.Graft
set_option maxRecDepth 20000
theorem cLine16 (s w : Str) (a : Nat) (hs : s.length ≤ 1000000000) (ha : a ≤ s.length) (hw : w.length ≤ 1000) : Ctr prog 87 [sV s, iV a, sV w] [] (.tup [sV (lineV (s.drop a) (w ++ [32])), iV (lineA s a w), bV (lineOk (s.drop a) (w ++ [32]))]) [] [] := by
  have c1 := cFind16 s [10] a (by omega) (by simp) (by simp) (by omega)
  obtain ⟨h1, h2, h3, h4⟩ := line_find w ha
  have hno : lineOk (s.drop a) (w ++ [32]) = false → lineV (s.drop a) (w ++ [32]) = [] ∧ lineA s a w = a := fun h => ⟨lineV_no h, by rw [lineA, h]; rfl⟩
  have hb : lineBad s a w = (decide (findS s [10] a < 0) || decide (findS s [10] a - (a : Int) < ((w.length : Int) + 1)) || !decide ((s.take (a + (w.length + 1))).drop a = w ++ [32])) := rfl
  generalize lineBad s a w = lb at *
  generalize lineOk (s.drop a) (w ++ [32]) = ok at *
  generalize lineV (s.drop a) (w ++ [32]) = v at *
  generalize lineA s a w = a2 at *
  generalize findS s [10] a = f at *
  refine Ctr.enter tblOk func87 rfl (by decide) rfl (nt := 46) rfl rfl rfl rfl ?_
  refine Trip.seq ?_
  apply Trip.reg tblOk
  · repeat' constructor
  · exact rfl
  refine Trip.seq ?_
  apply Trip.reg tblOk
  · repeat' (first | exact rfl | (apply Rule.sem; intro hγ; with_reducible apply F_call0 (x := .func 133) (B := []) hγ (hspec := c1)) | ((with_reducible refine Side.mk ?_); exact .inl rfl) | constructor)
  · exact rfl
  refine Trip.seq ?_
  apply Trip.reg tblOk
  · repeat' (first | exact rfl | ((with_reducible refine Side.mk ?_); omega) | constructor)
  · exact rfl
  refine Trip.seq ?_
  refine Trip.seq ?_
  apply Trip.reg tblOk
  · repeat' (first | exact rfl | (apply Rule.under tblOk; intro hγ; with_reducible apply Rule.slice) | ((first | with_reducible refine bok ?_ | with_reducible refine Side.mk ?_); first | omega | exact fun h => h | exact fun _ h => congrArg Bool.not h | (simp only [ln]; first | done | omega) | exact fun _ => hγ | (have h2 := hγ; simp only [gpick, cond_true, cond_false, decide_eq_true_eq, Bool.and_eq_true, Bool.or_eq_true, Bool.not_eq_true', Bool.not_eq_false', Bool.or_eq_false_iff, decide_eq_false_iff_not, List.length_map] at h2; (try simp only [List.length_map]); omega)) | constructor)
  · exact rfl
  apply Trip.cond (.tmp rfl)
  · intro h
    have h : lb = true := by rw [hb]; exact h
    have h : ok = false := by rw [h1] at h; simpa using h
    subst h
    obtain ⟨g1, g2⟩ := hno rfl
    rw [g1, g2]
    refine Trip.seq ?_
    apply Trip.reg tblOk
    · repeat' (first | exact rfl | constructor)
    · exact rfl
    refine Trip.ret ?_
    apply Ret3 []
    · repeat' (first | exact rfl | constructor)
    · exact rfl
    · repeat' constructor
    · repeat' constructor
    · repeat' (exact cvB (by simp only [List.length_map]))
  intro h
  have h : lb = false := by rw [hb]; exact h
  have h : ok = true := by rw [h1] at h; simpa using h
  subst h
  obtain ⟨e, rfl, g1, g2, _, g3⟩ := h4 rfl
  rw [← g2, g3]
  refine Trip.skip ?_
  refine Trip.seq ?_
  apply Trip.reg tblOk
  · repeat' (first | exact rfl | ((first | with_reducible refine bok ?_ | with_reducible refine Side.mk ?_); omega) | constructor)
  · exact rfl
  refine Trip.ret ?_
  apply Ret3 []
  · repeat' (first | exact rfl | constructor)
  · exact rfl
  · repeat' constructor
  · repeat' constructor
  · repeat' (exact cvB (by simp only [List.length_map]))
theorem cWho16 (x : Str) (b : Bool) (hx : x.length ≤ 1000000000) : Ctr prog 89 [sV x, bV b] [] (.tup [(whoOf x).2.pv, iV (whoM b x)]) [] [] := by
  have c1 := cParseWho16 x hx
  have hm : whoM b x = if b = false ∨ (whoOf x).1 = 2 then 0 else if (whoOf x).1 ≠ 0 then 1 else 2 := rfl
  generalize whoM b x = m at *
  generalize whoOf x = q at *
  obtain ⟨e, p⟩ := q
  dsimp only at *
  refine Ctr.enter tblOk func89 rfl (by decide) rfl (nt := 24) rfl rfl rfl rfl ?_
  refine Trip.seq ?_
  apply Trip.reg tblOk
  · repeat' (first | exact rfl | constructor)
  · exact rfl
  refine Trip.seq ?_
  apply Trip.reg tblOk
  · repeat' (first | exact rfl | (apply Rule.sem; intro hγ; with_reducible apply F_call0 (x := .func 135) (B := []) hγ (hspec := c1)) | ((with_reducible refine Side.mk ?_); exact .inl rfl) | constructor)
  · exact rfl
  refine Trip.seq ?_
  refine Trip.seq ?_
  apply Trip.reg tblOk
  · repeat' (first | exact rfl | ((with_reducible refine Side.mk ?_); first | exact fun h => h | exact fun _ h => congrArg Bool.not h) | constructor)
  · exact rfl
  apply Trip.cond (.tmp rfl)
  · intro h
    have h : b = false ∨ e = 2 := by simpa using h
    rw [if_pos h] at hm
    subst hm
    refine Trip.seq ?_
    apply Trip.reg tblOk
    · repeat' (first | exact rfl | constructor)
    · exact rfl
    refine Trip.ret ?_
    apply Ret2 []
    · repeat' (first | exact rfl | constructor)
    · exact rfl
    · repeat' constructor
    · repeat' constructor
  intro h
  have h : ¬ (b = false ∨ e = 2) := by
    have h : (!b || decide (e = 2)) = false := h
    intro h2
    rcases h2 with rfl | h2
    · simp at h
    · rw [decide_eq_true h2] at h; simp at h
  rw [if_neg h] at hm
  refine Trip.skip ?_
  refine Trip.seq ?_
  refine Trip.seq ?_
  apply Trip.reg tblOk
  · repeat' (first | exact rfl | constructor)
  · exact rfl
  apply Trip.cond (.tmp rfl)
  · intro h2
    have h2 : e ≠ 0 := by simpa using h2
    rw [if_pos h2] at hm
    subst hm
    refine Trip.seq ?_
    apply Trip.reg tblOk
    · repeat' (first | exact rfl | constructor)
    · exact rfl
    refine Trip.ret ?_
    apply Ret2 []
    · repeat' (first | exact rfl | constructor)
    · exact rfl
    · repeat' constructor
    · repeat' constructor
  intro h2
  have h2 : e = 0 := by simpa using h2
  rw [if_neg (by simp [h2])] at hm
  subst hm
  refine Trip.skip ?_
  refine Trip.seq ?_
  apply Trip.reg tblOk
  · repeat' (first | exact rfl | constructor)
  · exact rfl
  refine Trip.ret ?_
  apply Ret2 []
  · repeat' (first | exact rfl | constructor)
  · exact rfl
  · repeat' constructor
  · repeat' constructor
end Go.Proofs.Tryz
namespace Go.Proofs.Tryz
open Go Go.Sym Go.Graft
set_option maxRecDepth 20000
theorem cComE16 (nl : Bool) (c : Com) (h1 : c.tree.length ≤ 1000000000) (h2 : c.pars.length ≤ 1000000000) (h3 : ∀ p ∈ c.pars, p.length ≤ 1000000000) (h4 : c.aut.name.length ≤ 1000000000 ∧ c.aut.mail.length ≤ 1000000000) (h5 : c.com.name.length ≤ 1000000000 ∧ c.com.mail.length ≤ 1000000000) (h6 : c.text.length ≤ 1000000000) : Ctr prog 67 [c.pv nl] [] (iV (comE c)) [] [] := by
  have k1 := cIs2 c.tree (by omega)
  have k3 := cPerson2 c.aut.name c.aut.mail c.aut.time c.aut.zone (by omega) (by omega)
  have k4 := cPerson2 c.com.name c.com.mail c.com.time c.com.zone (by omega) (by omega)
  have k5 := cZero c.text (by omega)
  have hb := comBad_eq c
  have hb2 : comBad2 c = (!isId c.tree || !perOk c.aut.name c.aut.mail c.aut.time c.aut.zone || !perOk c.com.name c.com.mail c.com.time c.com.zone || hasZ c.text) := rfl
  rw [comE]
  obtain ⟨tree, pars, ⟨an, am, at', az⟩, ⟨cn, cm, ct, cz⟩, text⟩ := c
  dsimp only at *
  generalize comBad ⟨tree, pars, ⟨an, am, at', az⟩, ⟨cn, cm, ct, cz⟩, text⟩ = cb at *
  generalize comBad2 ⟨tree, pars, ⟨an, am, at', az⟩, ⟨cn, cm, ct, cz⟩, text⟩ = cb2 at *
  generalize isId tree = b1 at *
  generalize perOk an am at' az = b3 at *
  generalize perOk cn cm ct cz = b4 at *
  generalize hasZ text = b5 at *
  refine Ctr.enter tblOk func67 rfl (by decide) rfl (nt := 79) rfl rfl rfl rfl ?_
  refine Trip.seq ?_
  apply Trip.reg tblOk
  · repeat' (first | exact rfl | constructor)
  · exact rfl
  apply Trip.regk ⟨[(1, .ref 1 0), (3, bV cb2)], [(1, .box [sV tree, .sl nl 1 (pars.map fun x => sV x), sV an, sV am, iV at', iV az, sV cn, sV cm, iV ct, iV cz, sV text])]⟩ tblOk
  · repeat' (first | exact rfl | (apply Rule.sem; intro hγ; with_reducible apply F_call0 (x := .func 88) (B := []) hγ (hspec := k1)) | (apply Rule.sem; intro hγ; with_reducible apply F_call0 (dst := some 14) (x := .func 104) (B := []) hγ (hspec := k3)) | (apply Rule.sem; intro hγ; with_reducible apply F_call0 (dst := some 20) (x := .func 104) (B := []) hγ (hspec := k4)) | (apply Rule.sem; intro hγ; with_reducible apply F_call0 (x := .func 105) (B := []) hγ (hspec := k5)) | ((with_reducible refine Side.mk ?_); first | exact .inl rfl | exact fun h => h | exact fun _ h => congrArg Bool.not h) | constructor)
  · exact rfl
  · apply Weak.keep
    · exact rfl
    · repeat' (first | exact rfl | exact vB hb2.symm | constructor)
    · repeat' (first | exact rfl | constructor)
    · exact rfl
    · repeat' (first | exact rfl | constructor)
  refine Trip.seq ?_
  refine Trip.seq ?_
  apply Trip.reg tblOk
  · repeat' constructor
  · exact rfl
  refine Trip.block ?_
  apply Trip.loop (fun (i : Nat) => ⟨[(1, .ref 1 0), (3, bV (cb2 || (pars.take i).any fun p => !isId p)), (4, iV i)], [(1, .box [sV tree, .sl nl 1 (pars.map fun x => sV x), sV an, sV am, iV at', iV az, sV cn, sV cm, iV ct, iV cz, sV text])]⟩) (fun (i : Nat) => i ≤ pars.length) (fun (i : Nat) => pars.length - i) (0)
  · first | omega | (simp; done)
  · apply Weak.keep
    · exact rfl
    · repeat' (first | exact rfl | exact vB (by simp) | constructor)
    · repeat' (first | exact rfl | constructor)
    · exact rfl
    · repeat' (first | exact rfl | constructor)
  intro i hi
  refine Trip.seq ?_
  refine Trip.seq ?_
  apply Trip.reg tblOk
  · repeat' (first | exact rfl | constructor)
  · exact rfl
  apply Trip.cond (.tmp rfl)
  · intro h
    have h : i < pars.length := by simp at h; omega
    have k6 := cIs2 pars[i]! (by have := h3 _ (bang_mem h); omega)
    have ha := any_take (fun p => !isId p) pars i h
    generalize hn2 : ((pars.take (i + 1)).any fun p => !isId p) = n2 at *
    generalize ((pars.take i).any fun p => !isId p) = n1 at *
    try dsimp only at ha
    generalize isId pars[i]! = b6 at *
    refine Trip.skip ?_
    refine Trip.seq ?_
    refine Trip.block ?_
    apply Trip.reg tblOk
    · repeat' (first | exact rfl | (apply Rule.under tblOk; intro hγ; with_reducible apply Rule.indexAddr) | exact idx_map _ _ _ (by have h2 := hγ; simp only [gpick, cond_true, cond_false, decide_eq_true_eq, Bool.and_eq_true, Bool.or_eq_true, Bool.not_eq_true', Bool.not_eq_false', Bool.or_eq_false_iff, decide_eq_false_iff_not, List.length_map] at h2; show _ < _; omega) | (apply Rule.sem; intro hγ; with_reducible apply F_call0 (x := .func 88) (B := []) hγ (hspec := k6)) | ((with_reducible refine Side.mk ?_); first | exact .inl rfl | exact fun h => h | exact fun _ h => congrArg Bool.not h | (simp only [ln]; first | done | omega) | exact fun _ => hγ) | constructor)
    · exact rfl
    apply Trip.reg tblOk
    · repeat' (first | exact rfl | ((with_reducible refine Side.mk ?_); omega) | constructor)
    · exact rfl
    refine ⟨i + 1, ?_, ?_, ?_⟩
    · first | omega | (dsimp only at *; omega)
    · first | omega | (dsimp only at *; omega)
    · apply Weak.keep
      · exact rfl
      · repeat' (first | exact rfl | (rw [hn2]; exact vB (by rw [ha]; exact Bool.or_assoc _ _ _)) | constructor)
      · repeat' (first | exact rfl | constructor)
      · exact rfl
      · repeat' (first | exact rfl | constructor)
  intro h
  have h : i = pars.length := by simp at h; omega
  subst h
  rw [List.take_length, ← hb]
  refine Trip.exit ?_
  refine Trip.seq ?_
  refine Trip.seq ?_
  apply Trip.reg tblOk
  · repeat' (first | exact rfl | constructor)
  · exact rfl
  apply Trip.cond (.tmp rfl)
  · intro h
    have h : cb = true := h
    rw [if_pos h]
    refine Trip.seq ?_
    apply Trip.reg tblOk
    · repeat' constructor
    · exact rfl
    refine Trip.ret ?_
    apply Ret1 []
    · repeat' (first | exact rfl | constructor)
    · exact rfl
    · repeat' constructor
  intro h
  have h : cb = false := h
  rw [if_neg (by rw [h]; simp)]
  refine Trip.skip ?_
  refine Trip.seq ?_
  refine Trip.seq ?_
  apply Trip.reg tblOk
  · repeat' (first | exact rfl | ((with_reducible refine Side.mk ?_); first | exact fun h => h | exact fun _ h => congrArg Bool.not h) | constructor)
  · exact rfl
  apply Trip.cond (.tmp rfl)
  · intro h
    have h : (4096 : Int) < text.length ∨ (8 : Int) < pars.length := by simpa using h
    rw [if_pos h]
    refine Trip.seq ?_
    apply Trip.reg tblOk
    · repeat' constructor
    · exact rfl
    refine Trip.ret ?_
    apply Ret1 []
    · repeat' (first | exact rfl | constructor)
    · exact rfl
    · repeat' constructor
  intro h
  have h : ¬ ((4096 : Int) < text.length ∨ (8 : Int) < pars.length) := by simpa using h
  rw [if_neg h]
  refine Trip.skip ?_
  refine Trip.seq ?_
  refine Trip.seq ?_
  apply Trip.reg tblOk
  · repeat' constructor
  · exact rfl
  refine Trip.block ?_
  apply Trip.loop (fun (i : Nat) => ⟨[(1, .ref 1 0), (5, iV i)], [(1, .box [sV tree, .sl nl 1 (pars.map fun x => sV x), sV an, sV am, iV at', iV az, sV cn, sV cm, iV ct, iV cz, sV text])]⟩) (fun (i : Nat) => i ≤ pars.length ∧ ∀ j, j < i → dupE pars j = 0) (fun (i : Nat) => pars.length - i) (0)
  · exact ⟨Nat.zero_le _, fun j hj => absurd hj (by omega)⟩
  · apply Weak.keep
    · exact rfl
    · repeat' (first | exact rfl | constructor)
    · repeat' (first | exact rfl | constructor)
    · exact rfl
    · repeat' (first | exact rfl | constructor)
  intro i hi
  obtain ⟨hi, hj⟩ := hi
  refine Trip.seq ?_
  refine Trip.seq ?_
  apply Trip.reg tblOk
  · repeat' (first | exact rfl | constructor)
  · exact rfl
  apply Trip.cond (.tmp rfl)
  · intro h
    have h : i < pars.length := by simp at h; omega
    have hst := fun (h0 : dupE pars i ≠ 0) => firstE_stop (n := pars.length) h hj h0
    refine Trip.skip ?_
    refine Trip.seq ?_
    refine Trip.block ?_
    refine Trip.seq ?_
    apply Trip.reg tblOk
    · repeat' constructor
    · exact rfl
    refine Trip.block ?_
    apply Trip.loop (fun (k : Nat) => ⟨[(1, .ref 1 0), (5, iV i), (6, iV k)], [(1, .box [sV tree, .sl nl 1 (pars.map fun x => sV x), sV an, sV am, iV at', iV az, sV cn, sV cm, iV ct, iV cz, sV text])]⟩) (fun (k : Nat) => k ≤ i ∧ ∀ j, j < k → pars[i]! ≠ pars[j]!) (fun (k : Nat) => i - k) (0)
    · exact ⟨Nat.zero_le _, fun j hj => absurd hj (by omega)⟩
    · apply Weak.keep
      · exact rfl
      · repeat' (first | exact rfl | constructor)
      · repeat' (first | exact rfl | constructor)
      · exact rfl
      · repeat' (first | exact rfl | constructor)
    intro k hk
    obtain ⟨hk, hkj⟩ := hk
    refine Trip.seq ?_
    refine Trip.seq ?_
    apply Trip.reg tblOk
    · repeat' (first | exact rfl | constructor)
    · exact rfl
    apply Trip.cond (.tmp rfl)
    · intro h7
      have h7 : k < i := by simp at h7; omega
      refine Trip.skip ?_
      refine Trip.seq ?_
      refine Trip.block ?_
      refine Trip.seq ?_
      apply Trip.drw tblOk mixed
      · repeat' (first | exact rfl | exact idx_map _ _ _ (by show _ < _; first | omega | (simp only [List.length_map] at *; omega)) | ((with_reducible refine Side.mk ?_); (simp only [ln]; first | done | omega)) | constructor)
      · exact rfl
      · kernel_rfl
      apply Trip.cond (.tmp rfl)
      · intro h8
        have h8 : pars[i]! = pars[k]! := of_decide_eq_true h8
        have hd := dup_yes h h7 h8
        rw [hst (by omega), hd]
        refine Trip.seq ?_
        apply Trip.reg tblOk
        · repeat' constructor
        · exact rfl
        refine Trip.ret ?_
        apply Ret1 []
        · repeat' (first | exact rfl | constructor)
        · exact rfl
        · repeat' constructor
      intro h8
      have h8 : ¬ pars[i]! = pars[k]! := of_decide_eq_false h8
      refine Trip.skip ?_
      apply Trip.reg tblOk
      · repeat' (first | exact rfl | ((with_reducible refine Side.mk ?_); omega) | constructor)
      · exact rfl
      refine ⟨k + 1, ?_, ?_, ?_⟩
      · exact ⟨by omega, fun j h9 => (Nat.lt_succ_iff_lt_or_eq.1 h9).elim (hkj j) (fun e => e ▸ h8)⟩
      · first | omega | (dsimp only at *; omega)
      · apply Weak.keep
        · exact rfl
        · repeat' (first | exact rfl | constructor)
        · repeat' (first | exact rfl | constructor)
        · exact rfl
        · repeat' (first | exact rfl | constructor)
    intro h7
    have h7 : k = i := by simp at h7; omega
    subst h7
    have hd := dup_no h hkj
    refine Trip.exit ?_
    apply Trip.reg tblOk
    · repeat' (first | exact rfl | ((with_reducible refine Side.mk ?_); omega) | constructor)
    · exact rfl
    refine ⟨k + 1, ?_, ?_, ?_⟩
    · exact ⟨by omega, fun j h9 => (Nat.lt_succ_iff_lt_or_eq.1 h9).elim (hj j) (fun e => e ▸ hd)⟩
    · first | omega | (dsimp only at *; omega)
    · apply Weak.keep
      · exact rfl
      · repeat' (first | exact rfl | constructor)
      · repeat' (first | exact rfl | constructor)
      · exact rfl
      · repeat' (first | exact rfl | constructor)
  intro h
  have h : i = pars.length := by simp at h; omega
  subst h
  rw [firstE_zero hj]
  refine Trip.exit ?_
  refine Trip.seq ?_
  apply Trip.reg tblOk
  · repeat' constructor
  · exact rfl
  refine Trip.ret ?_
  apply Ret1 []
  · repeat' (first | exact rfl | constructor)
  · exact rfl
  · repeat' constructor
theorem cTgE16 (t : Tg) (h1 : t.obj.length ≤ 1000000000) (h3 : t.name.length ≤ 1000000000) (h4 : t.by'.name.length ≤ 1000000000 ∧ t.by'.mail.length ≤ 1000000000) (h6 : t.text.length ≤ 1000000000) : Ctr prog 91 [t.pv] [] (iV (tgE t)) [] [] := by
  have k1 := cIs2 t.obj (by omega)
  have k4 := cPerson2 t.by'.name t.by'.mail t.by'.time t.by'.zone (by omega) (by omega)
  have k5 := cZero t.text (by omega)
  have hb := tgBad_eq t
  have hb2 : tgBad2 t = (!isId t.obj || decide (t.kind < 1) || decide (4 < t.kind) || decide ((t.name.length : Int) < 1) || decide (64 < (t.name.length : Int)) || !perOk t.by'.name t.by'.mail t.by'.time t.by'.zone || hasZ t.text) := rfl
  rw [tgE]
  obtain ⟨ob, kind, name, ⟨an, am, at', az⟩, text⟩ := t
  dsimp only at *
  generalize tgBad ⟨ob, kind, name, ⟨an, am, at', az⟩, text⟩ = cb at *
  generalize tgBad2 ⟨ob, kind, name, ⟨an, am, at', az⟩, text⟩ = cb2 at *
  generalize isId ob = b1 at *
  generalize perOk an am at' az = b3 at *
  generalize hasZ text = b5 at *
  refine Ctr.enter tblOk func91 rfl (by decide) rfl (nt := 62) rfl rfl rfl rfl ?_
  refine Trip.seq ?_
  apply Trip.reg tblOk
  · repeat' (first | exact rfl | constructor)
  · exact rfl
  apply Trip.regk ⟨[(1, .ref 1 0), (3, bV cb2)], [(1, .box [sV ob, iV kind, sV name, sV an, sV am, iV at', iV az, sV text])]⟩ tblOk
  · repeat' (first | exact rfl | (apply Rule.sem; intro hγ; with_reducible apply F_call0 (x := .func 88) (B := []) hγ (hspec := k1)) | (apply Rule.sem; intro hγ; with_reducible apply F_call0 (x := .func 104) (B := []) hγ (hspec := k4)) | (apply Rule.sem; intro hγ; with_reducible apply F_call0 (x := .func 105) (B := []) hγ (hspec := k5)) | ((with_reducible refine Side.mk ?_); first | exact .inl rfl | exact fun h => h | exact fun _ h => congrArg Bool.not h) | constructor)
  · exact rfl
  · apply Weak.keep
    · exact rfl
    · repeat' (first | exact rfl | exact vB hb2.symm | constructor)
    · repeat' (first | exact rfl | constructor)
    · exact rfl
    · repeat' (first | exact rfl | constructor)
  refine Trip.seq ?_
  refine Trip.seq ?_
  apply Trip.reg tblOk
  · repeat' constructor
  · exact rfl
  refine Trip.block ?_
  apply Trip.loop (fun (i : Nat) => ⟨[(1, .ref 1 0), (3, bV (cb2 || tagN name i)), (4, iV i)], [(1, .box [sV ob, iV kind, sV name, sV an, sV am, iV at', iV az, sV text])]⟩) (fun (i : Nat) => i ≤ name.length) (fun (i : Nat) => name.length - i) (0)
  · first | omega | (simp; done)
  · apply Weak.keep
    · exact rfl
    · repeat' (first | exact rfl | exact vB (by simp [tagN]) | constructor)
    · repeat' (first | exact rfl | constructor)
    · exact rfl
    · repeat' (first | exact rfl | constructor)
  intro i hi
  refine Trip.seq ?_
  refine Trip.seq ?_
  apply Trip.reg tblOk
  · repeat' (first | exact rfl | constructor)
  · exact rfl
  apply Trip.cond (.tmp rfl)
  · intro h
    have h : i < name.length := by simp at h; omega
    have ha := tagN_succ name i h
    generalize hn2 : tagN name (i + 1) = n2 at *
    generalize tagN name i = n1 at *
    refine Trip.skip ?_
    refine Trip.seq ?_
    refine Trip.block ?_
    apply Trip.reg tblOk
    · repeat' (first | exact rfl | (apply Rule.under tblOk; intro hγ; with_reducible apply Rule.index) | ((with_reducible refine Side.mk ?_); first | omega | exact fun h => h | exact fun _ h => congrArg Bool.not h | exact fun _ => hγ) | constructor)
    · exact rfl
    apply Trip.reg tblOk
    · repeat' (first | exact rfl | ((with_reducible refine Side.mk ?_); omega) | constructor)
    · exact rfl
    refine ⟨i + 1, ?_, ?_, ?_⟩
    · first | omega | (dsimp only at *; omega)
    · first | omega | (dsimp only at *; omega)
    · apply Weak.keep
      · exact rfl
      · repeat' (first | exact rfl | (rw [hn2]; exact vB (by rw [ha]; exact Bool.or_assoc _ _ _)) | constructor)
      · repeat' (first | exact rfl | constructor)
      · exact rfl
      · repeat' (first | exact rfl | constructor)
  intro h
  have h : i = name.length := by simp at h; omega
  subst h
  rw [tagN_all, ← hb]
  refine Trip.exit ?_
  refine Trip.seq ?_
  refine Trip.seq ?_
  apply Trip.reg tblOk
  · repeat' (first | exact rfl | constructor)
  · exact rfl
  apply Trip.cond (.tmp rfl)
  · intro h
    have h : cb = true := h
    rw [if_pos h]
    refine Trip.seq ?_
    apply Trip.reg tblOk
    · repeat' constructor
    · exact rfl
    refine Trip.ret ?_
    apply Ret1 []
    · repeat' (first | exact rfl | constructor)
    · exact rfl
    · repeat' constructor
  intro h
  have h : cb = false := h
  rw [if_neg (by rw [h]; simp)]
  refine Trip.skip ?_
  refine Trip.seq ?_
  refine Trip.seq ?_
  apply Trip.reg tblOk
  · repeat' (first | exact rfl | constructor)
  · exact rfl
  apply Trip.cond (.tmp rfl)
  · intro h
    have h : (4096 : Int) < text.length := by simpa using h
    rw [if_pos h]
    refine Trip.seq ?_
    apply Trip.reg tblOk
    · repeat' constructor
    · exact rfl
    refine Trip.ret ?_
    apply Ret1 []
    · repeat' (first | exact rfl | constructor)
    · exact rfl
    · repeat' constructor
  intro h
  have h : ¬ (4096 : Int) < text.length := by simpa using h
  rw [if_neg h]
  refine Trip.skip ?_
  refine Trip.seq ?_
  apply Trip.reg tblOk
  · repeat' constructor
  · exact rfl
  refine Trip.ret ?_
  apply Ret1 []
  · repeat' (first | exact rfl | constructor)
  · exact rfl
  · repeat' constructor
end Go.Proofs.Tryz
