/- A part of the proof: Hv, Hw. -/
import Derived.Test.YtbnnmnbidkpmcaaGreatDoorPart32
set_option linter.unusedVariables false
set_option linter.unusedSimpArgs false
namespace Go.Proofs.Tryz
open Go Go.Sym Go.Graft
set_option maxRecDepth 20000
theorem cComE16 (nl : Bool) (c : Com) (h1 : c.tree.length ≤ 1000000000) (h2 : c.pars.length ≤ 1000000000) (h3 : ∀ p ∈ c.pars, p.length ≤ 1000000000) (h4 : c.aut.name.length ≤ 1000000000 ∧ c.aut.mail.length ≤ 1000000000) (h5 : c.com.name.length ≤ 1000000000 ∧ c.com.mail.length ≤ 1000000000) (h6 : c.text.length ≤ 1000000000) : Ctr prog 67 [c.pv nl] [] (iV (comE c)) [] [] := by
 have k1 := cIs2 c.tree (by omega)
 have k3 := cPerson2 c.aut.name c.aut.mail c.aut.time c.aut.zone (by omega) (by omega)
 have k4 := cPerson2 c.com.name c.com.mail c.com.time c.com.zone (by omega) (by omega)
 have k5 := cZero c.text (by omega)
 have hb := comBad_eq c
 have hb2 : comBad2 c = (!isId c.tree || !perOk c.aut.name c.aut.mail c.aut.time c.aut.zone || !perOk c.com.name c.com.mail c.com.time c.com.zone || hasZ c.text) := rfl
 rw [comE]
 obtain ⟨tree, pars, ⟨an, am, at', az⟩, ⟨cn, cm, ct, cz⟩, text⟩ := c
 dsimp only at *
 generalize comBad ⟨tree, pars, ⟨an, am, at', az⟩, ⟨cn, cm, ct, cz⟩, text⟩ = cb at *
 generalize comBad2 ⟨tree, pars, ⟨an, am, at', az⟩, ⟨cn, cm, ct, cz⟩, text⟩ = cb2 at *
 generalize isId tree = b1 at *
 generalize perOk an am at' az = b3 at *
 generalize perOk cn cm ct cz = b4 at *
 generalize hasZ text = b5 at *
 refine Ctr.enter tblOk func67 rfl (by decide) rfl (nt := 79) rfl rfl rfl rfl ?_
 refine Trip.sr tblOk ?_
 refine Trip.rk ⟨[(1, .ref 1 0), (3, bV cb2)], [(1, .box [sV tree, .sl nl 1 (pars.map fun x => sV x), sV an, sV am, iV at', iV az, sV cn, sV cm, iV ct, iV cz, sV text])]⟩ tblOk (by repeat' (first | exact rfl | (apply Rule.sem; intro hγ; with_reducible apply F_call0 (x := .func 88) (B := []) hγ (hspec := k1)) | (apply Rule.sem; intro hγ; with_reducible apply F_call0 (dst := some 14) (x := .func 104) (B := []) hγ (hspec := k3)) | (apply Rule.sem; intro hγ; with_reducible apply F_call0 (dst := some 20) (x := .func 104) (B := []) hγ (hspec := k4)) | (apply Rule.sem; intro hγ; with_reducible apply F_call0 (x := .func 105) (B := []) hγ (hspec := k5)) | ((with_reducible refine Side.mk ?_); first | exact .inl rfl | exact fun h => h | exact fun _ h => congrArg Bool.not h) | constructor)) (Weak.kp (ht := by repeat' (first | exact rfl | exact vB hb2.symm | constructor))) ?_
 refine Trip.seq (Trip.sr tblOk ?_)
 refine Trip.block ?_
 refine Trip.loop (fun (i : Nat) => ⟨[(1, .ref 1 0), (3, bV (cb2 || (pars.take i).any fun p => !isId p)), (4, iV i)], [(1, .box [sV tree, .sl nl 1 (pars.map fun x => sV x), sV an, sV am, iV at', iV az, sV cn, sV cm, iV ct, iV cz, sV text])]⟩) (fun (i : Nat) => i ≤ pars.length) (fun (i : Nat) => pars.length - i) (0) (by first | omega | (simp; done)) (Weak.kp (ht := by repeat' (first | exact rfl | exact vB (by simp) | constructor))) ?_
 intro i hi
 refine Trip.seq (Trip.sr tblOk ?_)
 apply Trip.cond (.tmp rfl)
 ·intro h
  have h : i < pars.length := by simp at h; omega
  have k6 := cIs2 pars[i]! (by have := h3 _ (bang_mem h); omega)
  have ha := any_take (fun p => !isId p) pars i h
  generalize hn2 : ((pars.take (i + 1)).any fun p => !isId p) = n2 at *
  generalize ((pars.take i).any fun p => !isId p) = n1 at *
  try dsimp only at ha
  generalize isId pars[i]! = b6 at *
  refine Trip.skip (Trip.seq (Trip.block (Trip.R tblOk (by repeat' (first | exact rfl | (apply Rule.under tblOk; intro hγ; with_reducible apply Rule.indexAddr) | exact idx_map _ _ _ (by have h2 := hγ; simp only [gpick, cond_true, cond_false, decide_eq_true_eq, Bool.and_eq_true, Bool.or_eq_true, Bool.not_eq_true', Bool.not_eq_false', Bool.or_eq_false_iff, decide_eq_false_iff_not, List.length_map] at h2; show _ < _; omega) | (apply Rule.sem; intro hγ; with_reducible apply F_call0 (x := .func 88) (B := []) hγ (hspec := k6)) | ((with_reducible refine Side.mk ?_); first | exact .inl rfl | exact fun h => h | exact fun _ h => congrArg Bool.not h | (simp only [ln]; first | done | omega) | exact fun _ => hγ) | constructor)) ?_)))
  refine Trip.R tblOk (by repeat' (first | exact rfl | ((with_reducible refine Side.mk ?_); omega) | constructor)) ?_
  exact ⟨i + 1, by first | omega | (dsimp only at *; omega), by first | omega | (dsimp only at *; omega), Weak.kp (ht := by repeat' (first | exact rfl | (rw [hn2]; exact vB (by rw [ha]; exact Bool.or_assoc _ _ _)) | constructor))⟩
 intro h
 have h : i = pars.length := by simp at h; omega
 subst h
 rw [List.take_length, ← hb]
 refine Trip.exit (Trip.seq (Trip.sr tblOk ?_))
 apply Trip.cond (.tmp rfl)
 ·intro h
  have h : cb = true := h
  rw [if_pos h]
  refine Trip.sr tblOk ?_
  refine Trip.ret (rt1 [])
 intro h
 have h : cb = false := h
 rw [if_neg (by rw [h]; simp)]
 refine Trip.skip (Trip.seq (Trip.sR tblOk (by repeat' (first | exact rfl | ((with_reducible refine Side.mk ?_); first | exact fun h => h | exact fun _ h => congrArg Bool.not h) | constructor)) ?_))
 apply Trip.cond (.tmp rfl)
 ·intro h
  have h : (4096 : Int) < text.length ∨ (8 : Int) < pars.length := by simpa using h
  rw [if_pos h]
  refine Trip.sr tblOk ?_
  refine Trip.ret (rt1 [])
 intro h
 have h : ¬ ((4096 : Int) < text.length ∨ (8 : Int) < pars.length) := by simpa using h
 rw [if_neg h]
 refine Trip.skip (Trip.seq (Trip.sr tblOk ?_))
 refine Trip.block ?_
 refine Trip.loop (fun (i : Nat) => ⟨[(1, .ref 1 0), (5, iV i)], [(1, .box [sV tree, .sl nl 1 (pars.map fun x => sV x), sV an, sV am, iV at', iV az, sV cn, sV cm, iV ct, iV cz, sV text])]⟩) (fun (i : Nat) => i ≤ pars.length ∧ ∀ j, j < i → dupE pars j = 0) (fun (i : Nat) => pars.length - i) (0) (by exact ⟨Nat.zero_le _, fun j hj => absurd hj (by omega)⟩) Weak.kp ?_
 intro i hi
 obtain ⟨hi, hj⟩ := hi
 refine Trip.seq (Trip.sr tblOk ?_)
 apply Trip.cond (.tmp rfl)
 ·intro h
  have h : i < pars.length := by simp at h; omega
  have hst := fun (h0 : dupE pars i ≠ 0) => firstE_stop (n := pars.length) h hj h0
  refine Trip.skip (Trip.seq (Trip.block (Trip.sr tblOk ?_)))
  refine Trip.block ?_
  refine Trip.loop (fun (k : Nat) => ⟨[(1, .ref 1 0), (5, iV i), (6, iV k)], [(1, .box [sV tree, .sl nl 1 (pars.map fun x => sV x), sV an, sV am, iV at', iV az, sV cn, sV cm, iV ct, iV cz, sV text])]⟩) (fun (k : Nat) => k ≤ i ∧ ∀ j, j < k → pars[i]! ≠ pars[j]!) (fun (k : Nat) => i - k) (0) (by exact ⟨Nat.zero_le _, fun j hj => absurd hj (by omega)⟩) Weak.kp ?_
  intro k hk
  obtain ⟨hk, hkj⟩ := hk
  refine Trip.seq (Trip.sr tblOk ?_)
  apply Trip.cond (.tmp rfl)
  ·intro h7
   have h7 : k < i := by simp at h7; omega
   refine Trip.skip (Trip.seq (Trip.block (Trip.sD tblOk mixed (by repeat' (first | exact rfl | exact idx_map _ _ _ (by show _ < _; first | omega | (simp only [List.length_map] at *; omega)) | ((with_reducible refine Side.mk ?_); (simp only [ln]; first | done | omega)) | constructor)) ?_)))
   apply Trip.cond (.tmp rfl)
   ·intro h8
    have h8 : pars[i]! = pars[k]! := of_decide_eq_true h8
    have hd := dup_yes h h7 h8
    rw [hst (by omega), hd]
    refine Trip.sr tblOk ?_
    refine Trip.ret (rt1 [])
   intro h8
   have h8 : ¬ pars[i]! = pars[k]! := of_decide_eq_false h8
   refine Trip.skip (Trip.R tblOk (by repeat' (first | exact rfl | ((with_reducible refine Side.mk ?_); omega) | constructor)) ?_)
   exact ⟨k + 1, by exact ⟨by omega, fun j h9 => (Nat.lt_succ_iff_lt_or_eq.1 h9).elim (hkj j) (fun e => e ▸ h8)⟩, by first | omega | (dsimp only at *; omega), Weak.kp⟩
  intro h7
  have h7 : k = i := by simp at h7; omega
  subst h7
  have hd := dup_no h hkj
  refine Trip.exit (Trip.R tblOk (by repeat' (first | exact rfl | ((with_reducible refine Side.mk ?_); omega) | constructor)) ?_)
  exact ⟨k + 1, by exact ⟨by omega, fun j h9 => (Nat.lt_succ_iff_lt_or_eq.1 h9).elim (hj j) (fun e => e ▸ hd)⟩, by first | omega | (dsimp only at *; omega), Weak.kp⟩
 intro h
 have h : i = pars.length := by simp at h; omega
 subst h
 rw [firstE_zero hj]
 refine Trip.exit (Trip.sr tblOk ?_)
 refine Trip.ret (rt1 [])
theorem cTgE16 (t : Tg) (h1 : t.obj.length ≤ 1000000000) (h3 : t.name.length ≤ 1000000000) (h4 : t.by'.name.length ≤ 1000000000 ∧ t.by'.mail.length ≤ 1000000000) (h6 : t.text.length ≤ 1000000000) : Ctr prog 91 [t.pv] [] (iV (tgE t)) [] [] := by
 have k1 := cIs2 t.obj (by omega)
 have k4 := cPerson2 t.by'.name t.by'.mail t.by'.time t.by'.zone (by omega) (by omega)
 have k5 := cZero t.text (by omega)
 have hb := tgBad_eq t
 have hb2 : tgBad2 t = (!isId t.obj || decide (t.kind < 1) || decide (4 < t.kind) || decide ((t.name.length : Int) < 1) || decide (64 < (t.name.length : Int)) || !perOk t.by'.name t.by'.mail t.by'.time t.by'.zone || hasZ t.text) := rfl
 rw [tgE]
 obtain ⟨ob, kind, name, ⟨an, am, at', az⟩, text⟩ := t
 dsimp only at *
 generalize tgBad ⟨ob, kind, name, ⟨an, am, at', az⟩, text⟩ = cb at *
 generalize tgBad2 ⟨ob, kind, name, ⟨an, am, at', az⟩, text⟩ = cb2 at *
 generalize isId ob = b1 at *
 generalize perOk an am at' az = b3 at *
 generalize hasZ text = b5 at *
 refine Ctr.enter tblOk func91 rfl (by decide) rfl (nt := 62) rfl rfl rfl rfl ?_
 refine Trip.sr tblOk ?_
 refine Trip.rk ⟨[(1, .ref 1 0), (3, bV cb2)], [(1, .box [sV ob, iV kind, sV name, sV an, sV am, iV at', iV az, sV text])]⟩ tblOk (by repeat' (first | exact rfl | (apply Rule.sem; intro hγ; with_reducible apply F_call0 (x := .func 88) (B := []) hγ (hspec := k1)) | (apply Rule.sem; intro hγ; with_reducible apply F_call0 (x := .func 104) (B := []) hγ (hspec := k4)) | (apply Rule.sem; intro hγ; with_reducible apply F_call0 (x := .func 105) (B := []) hγ (hspec := k5)) | ((with_reducible refine Side.mk ?_); first | exact .inl rfl | exact fun h => h | exact fun _ h => congrArg Bool.not h) | constructor)) (Weak.kp (ht := by repeat' (first | exact rfl | exact vB hb2.symm | constructor))) ?_
 refine Trip.seq (Trip.sr tblOk ?_)
 refine Trip.block ?_
 refine Trip.loop (fun (i : Nat) => ⟨[(1, .ref 1 0), (3, bV (cb2 || tagN name i)), (4, iV i)], [(1, .box [sV ob, iV kind, sV name, sV an, sV am, iV at', iV az, sV text])]⟩) (fun (i : Nat) => i ≤ name.length) (fun (i : Nat) => name.length - i) (0) (by first | omega | (simp; done)) (Weak.kp (ht := by repeat' (first | exact rfl | exact vB (by simp [tagN]) | constructor))) ?_
 intro i hi
 refine Trip.seq (Trip.sr tblOk ?_)
 apply Trip.cond (.tmp rfl)
 ·intro h
  have h : i < name.length := by simp at h; omega
  have ha := tagN_succ name i h
  generalize hn2 : tagN name (i + 1) = n2 at *
  generalize tagN name i = n1 at *
  refine Trip.skip (Trip.seq (Trip.block (Trip.R tblOk (by repeat' (first | exact rfl | (apply Rule.under tblOk; intro hγ; with_reducible apply Rule.index) | ((with_reducible refine Side.mk ?_); first | omega | exact fun h => h | exact fun _ h => congrArg Bool.not h | exact fun _ => hγ) | constructor)) ?_)))
  refine Trip.R tblOk (by repeat' (first | exact rfl | ((with_reducible refine Side.mk ?_); omega) | constructor)) ?_
  exact ⟨i + 1, by first | omega | (dsimp only at *; omega), by first | omega | (dsimp only at *; omega), Weak.kp (ht := by repeat' (first | exact rfl | (rw [hn2]; exact vB (by rw [ha]; exact Bool.or_assoc _ _ _)) | constructor))⟩
 intro h
 have h : i = name.length := by simp at h; omega
 subst h
 rw [tagN_all, ← hb]
 refine Trip.exit (Trip.seq (Trip.sr tblOk ?_))
 apply Trip.cond (.tmp rfl)
 ·intro h
  have h : cb = true := h
  rw [if_pos h]
  refine Trip.sr tblOk ?_
  refine Trip.ret (rt1 [])
 intro h
 have h : cb = false := h
 rw [if_neg (by rw [h]; simp)]
 refine Trip.skip (Trip.seq (Trip.sr tblOk ?_))
 apply Trip.cond (.tmp rfl)
 ·intro h
  have h : (4096 : Int) < text.length := by simpa using h
  rw [if_pos h]
  refine Trip.sr tblOk ?_
  refine Trip.ret (rt1 [])
 intro h
 have h : ¬ (4096 : Int) < text.length := by simpa using h
 rw [if_neg h]
 refine Trip.skip (Trip.sr tblOk ?_)
 refine Trip.ret (rt1 [])
end Go.Proofs.Tryz
namespace Go.Proofs.Tryz
open Go Go.Sym Go.Graft
set_option maxRecDepth 20000
theorem whoOf_len16 (x : Str) : (whoOf x).2.name.length ≤ x.length ∧ (whoOf x).2.mail.length ≤ x.length := by
 have cl : ∀ s t : Str, (Lib.cut s t).1.length ≤ s.length ∧ (Lib.cut s t).2.1.length ≤ s.length := by
  intro s t
  rw [Lib.cut]
  split
  ·simp only [List.length_take, List.length_drop]; omega
  ·simp
 have h1 := cl x [32, 60]
 have h2 := cl (Lib.cut x [32, 60]).2.1 [62, 32]
 rw [whoOf]
 split
 ·simp [zeroPer]
 split
 ·simp [zeroPer]
 ·exact ⟨h1.1, by simp only; omega⟩
set_option maxHeartbeats 2000000 in
theorem cParse16 (s : Str) (hs : s.length ≤ 100000000) : Ctr prog 51 [sV s] [] (.tup [(comR s).2.pv (comR s).2.pars.isEmpty, iV (comR s).1]) [] [] := by
 have cl := fun (w : Str) (hw : w.length ≤ 1000) (a : Nat) (ha : a ≤ s.length) => cLine16 s w a (by omega) ha hw
 have c1 : Ctr prog 87 [sV s, iV 0, sV [116, 114, 101, 101]] [] (.tup [sV (lineV s kTree), iV (lineA s 0 [116, 114, 101, 101]), bV (lineOk s kTree)]) [] [] := cl [116, 114, 101, 101] (by decide) 0 (Nat.zero_le _)
 have c2 : ∀ a, a ≤ s.length → Ctr prog 87 [sV s, iV a, sV [112, 97, 114, 101, 110, 116]] [] (.tup [sV (lineV (s.drop a) kPar), iV (lineA s a [112, 97, 114, 101, 110, 116]), bV (lineOk (s.drop a) kPar)]) [] [] := cl [112, 97, 114, 101, 110, 116] (by decide)
 have c3 : ∀ a, a ≤ s.length → Ctr prog 87 [sV s, iV a, sV [97, 117, 116, 104, 111, 114]] [] (.tup [sV (lineV (s.drop a) kAut), iV (lineA s a [97, 117, 116, 104, 111, 114]), bV (lineOk (s.drop a) kAut)]) [] [] := cl [97, 117, 116, 104, 111, 114] (by decide)
 have c4 : ∀ a, a ≤ s.length → Ctr prog 87 [sV s, iV a, sV [99, 111, 109, 109, 105, 116, 116, 101, 114]] [] (.tup [sV (lineV (s.drop a) kCom), iV (lineA s a [99, 111, 109, 109, 105, 116, 116, 101, 114]), bV (lineOk (s.drop a) kCom)]) [] [] := cl [99, 111, 109, 109, 105, 116, 116, 101, 114] (by decide)
 have a1 : s.drop (lineA s 0 [116, 114, 101, 101]) = lineR s kTree ∧ lineA s 0 [116, 114, 101, 101] ≤ s.length := lineA_drop (s := s) [116, 114, 101, 101] (Nat.zero_le _)
 have a2 : ∀ a, a ≤ s.length → s.drop (lineA s a [112, 97, 114, 101, 110, 116]) = lineR (s.drop a) kPar ∧ lineA s a [112, 97, 114, 101, 110, 116] ≤ s.length := fun a => lineA_drop (s := s) [112, 97, 114, 101, 110, 116]
 have a3 : ∀ a, a ≤ s.length → s.drop (lineA s a [97, 117, 116, 104, 111, 114]) = lineR (s.drop a) kAut ∧ lineA s a [97, 117, 116, 104, 111, 114] ≤ s.length := fun a => lineA_drop (s := s) [97, 117, 116, 104, 111, 114]
 have a4 : ∀ a, a ≤ s.length → s.drop (lineA s a [99, 111, 109, 109, 105, 116, 116, 101, 114]) = lineR (s.drop a) kCom ∧ lineA s a [99, 111, 109, 109, 105, 116, 116, 101, 114] ≤ s.length := fun a => lineA_drop (s := s) [99, 111, 109, 109, 105, 116, 116, 101, 114]
 clear cl
 have hV := lineV_le s kTree
 have d0 := comR_bad (s := s)
 have d1 := comR_none (s := s)
 have d2 := fun s2 l => comR_some (s := s) (s2 := s2) (l := l)
 have k1 := cIs2 (lineV s kTree) (by omega)
 generalize comR s = res at *
 generalize lineV s kTree = tr at *
 generalize lineOk s kTree = ok1 at *
 generalize isId tr = id1 at *
 generalize lineA s 0 [116, 114, 101, 101] = p0 at *
 rw [← a1.1] at d1 d2
 have hp0 := a1.2
 clear a1
 refine Ctr.enter tblOk func51 rfl (by decide) rfl (nt := 132) rfl rfl rfl rfl ?_
 refine Trip.sr tblOk ?_
 refine Trip.sr tblOk ?_
 refine Trip.sR tblOk (by repeat' (first | exact rfl | (apply Rule.sem; intro hγ; with_reducible apply F_call0 (x := .func 87) (B := []) hγ (hspec := c1)) | ((with_reducible refine Side.mk ?_); exact .inl rfl) | constructor)) ?_
 refine Trip.seq (Trip.sR tblOk (by repeat' (first | exact rfl | (apply Rule.sem; intro hγ; with_reducible apply F_call0 (x := .func 88) (B := []) hγ (hspec := k1)) | ((with_reducible refine Side.mk ?_); first | exact .inl rfl | exact fun h => h | exact fun _ h => congrArg Bool.not h) | constructor)) ?_)
 apply Trip.cond (.tmp rfl)
 ·intro h
  have h : (ok1 && id1) = false := by
   have h : (!ok1 || !id1) = true := h
   revert h; cases ok1 <;> cases id1 <;> simp
  rw [d0 h]
  refine Trip.sr tblOk ?_
  refine Trip.ret (rt2 [])
 intro h
 have h : (ok1 && id1) = true := by
  have h : (!ok1 || !id1) = false := h
  revert h; cases ok1 <;> cases id1 <;> simp
 have d1 := d1 h
 have d2 := fun s2 l => d2 s2 l h
 clear d0
 refine Trip.skip (Trip.sr tblOk ?_)
 have c20 := c2 p0 hp0
 refine Trip.sR tblOk (by repeat' (first | exact rfl | (apply Rule.sem; intro hγ; with_reducible apply F_call0 (x := .func 87) (B := []) hγ (hspec := c20)) | ((with_reducible refine Side.mk ?_); exact .inl rfl) | constructor)) ?_
 refine Trip.seq (Trip.block ?_)
 apply Trip.loop (fun (x : Nat × List Str) => ⟨[(0, sV s), (2, .ref 2 0), (4, .ref 4 0), (6, iV x.1), (8, sV (lineV (s.drop x.1) kPar)), (9, iV (lineA s x.1 [112, 97, 114, 101, 110, 116])), (10, bV (lineOk (s.drop x.1) kPar))], [(900, .arr 1 x.2.isEmpty (x.2.map fun p => sV p)), (2, .box [sV [], nilS, sV [], sV [], iV 0, iV 0, sV [], sV [], iV 0, iV 0, sV []]), (4, .box [sV tr, .osl 900 0 x.2.length x.2.length, sV [], sV [], iV 0, iV 0, sV [], sV [], iV 0, iV 0, sV []])]⟩) (fun (x : Nat × List Str) => ParsR s p0 x) (fun (x : Nat × List Str) => s.length - x.1) ((p0, []))
 ·exact parsR_zero hp0
 ·refine Weak.trans (S2 := ⟨[(0, sV s), (2, .ref 2 0), (4, .ref 4 0), (6, iV p0), (8, sV (lineV (s.drop p0) kPar)), (9, iV (lineA s p0 [112, 97, 114, 101, 110, 116])), (10, bV (lineOk (s.drop p0) kPar))], [(2, .box [sV [], nilS, sV [], sV [], iV 0, iV 0, sV [], sV [], iV 0, iV 0, sV []]), (4, .box [sV tr, nilS, sV [], sV [], iV 0, iV 0, sV [], sV [], iV 0, iV 0, sV []])]⟩) ?_ ?_
  ·exact Weak.kp
  ·exact Weak.adopt 900 1 rfl rfl (by repeat' (first | exact rfl | constructor)) (by repeat' (first | exact rfl | constructor))
 intro x hx
 obtain ⟨a, l⟩ := x
 have hx2 := hx
 obtain ⟨_, hal, hl1, hl2⟩ := hx2
 dsimp only at *
 refine Trip.seq (Trip.sr tblOk ?_)
 apply Trip.cond (.tmp rfl)
 ·intro h2
  have h2 : lineOk (s.drop a) kPar = true := h2
  have hbad := parsR_bad hx h2
  obtain ⟨a2a, a2b⟩ := a2 a hal
  have hnext := fun hi => parsR_next hx h2 hi a2a a2b
  have k2 := cIs2 (lineV (s.drop a) kPar) (by have := lineV_le (s.drop a) kPar; rw [List.length_drop] at this; omega)
  generalize hv : lineV (s.drop a) kPar = v at *
  generalize isId v = id2 at *
  generalize hp2 : lineA s a [112, 97, 114, 101, 110, 116] = p2 at *
  refine Trip.skip (Trip.block (Trip.seq (Trip.sR tblOk (by repeat' (first | exact rfl | (apply Rule.sem; intro hγ; with_reducible apply F_call0 (x := .func 88) (B := []) hγ (hspec := k2)) | ((with_reducible refine Side.mk ?_); exact .inl rfl) | constructor)) ?_)))
  apply Trip.cond (.tmp rfl)
  ·intro h3
   have h3 : id2 = false := by simpa using h3
   rw [d1 (hbad h3)]
   refine Trip.sr tblOk ?_
   refine Trip.ret (rt2 [])
  intro h3
  have h3 : id2 = true := by simpa using h3
  obtain ⟨n1, n2⟩ := hnext h3
  refine Trip.skip ?_
  have c21 := c2 p2 a2b
  refine Trip.sR tblOk (by repeat' (first | exact rfl | ((with_reducible refine Side.mk ?_); (simp only [ln]; first | done | omega)) | constructor)) ?_
  refine Trip.sr tblOk ?_
  refine Trip.R tblOk (by repeat' (first | exact rfl | (apply Rule.sem; intro hγ; with_reducible apply F_call0 (x := .func 87) (B := []) hγ (hspec := c21)) | ((with_reducible refine Side.mk ?_); exact .inl rfl) | constructor)) ?_
  exact ⟨(p2, l ++ [v]), by exact n1, by first | omega | (dsimp only at *; omega), Weak.kp (ho := by repeat' (first | exact rfl | exact arrF (by simp) (by simp) | (refine Side.mk ?_; simp; done) | constructor)) (huo := by repeat' (first | exact rfl | exact plainL_map _ (fun _ => rfl) _ | constructor))⟩
 intro h2
 have h2 : lineOk (s.drop a) kPar = false := h2
 have d2 := d2 _ _ (parsR_end hx h2)
 clear d1 hx h2 c2 a2 c20
 try dsimp only at d2
 have c3 := c3 a hal
 obtain ⟨a3a, a3b⟩ := a3 a hal
 rw [← a3a] at d2
 have hx1 := lineV_le (s.drop a) kAut
 rw [List.length_drop] at hx1
 generalize lineA s a [97, 117, 116, 104, 111, 114] = p3 at *
 generalize lineV (s.drop a) kAut = x at *
 generalize lineOk (s.drop a) kAut = okx at *
 have w1 := whoOf_len16 x
 have k3 := cWho16 x okx (by omega)
 generalize whoM okx x = m at *
 generalize (whoOf x).2 = px at *
 have c4 := c4 p3 a3b
 obtain ⟨a4a, a4b⟩ := a4 p3 a3b
 rw [← a4a] at d2
 have hy1 := lineV_le (s.drop p3) kCom
 rw [List.length_drop] at hy1
 generalize lineA s p3 [99, 111, 109, 109, 105, 116, 116, 101, 114] = p4 at *
 generalize lineV (s.drop p3) kCom = y at *
 generalize lineOk (s.drop p3) kCom = oky at *
 have w2 := whoOf_len16 y
 have k4 := cWho16 y oky (by omega)
 generalize whoM oky y = n at *
 generalize (whoOf y).2 = py at *
 rw [drop_nil_iff, getD_drop, Nat.add_zero] at d2
 have e5 : (s.take s.length).drop (p4 + 1) = (s.drop p4).drop 1 := by rw [List.take_length, List.drop_drop]
 rw [← e5] at d2
 have hcm := cComE16 l.isEmpty ⟨tr, l, px, py, (s.take s.length).drop (p4 + 1)⟩ (by simp only; omega) (by simp only; omega) (fun p hp => by have := hl2 p hp; omega) (by simp only; omega) (by simp only; omega) (by simp only [List.length_drop, List.length_take]; omega)
 generalize hce : comE ⟨tr, l, px, py, (s.take s.length).drop (p4 + 1)⟩ = ce at *
 clear a3 a4 a3a a4a
 refine Trip.exit (Trip.sR tblOk (by repeat' (first | exact rfl | (apply Rule.sem; intro hγ; with_reducible apply F_call0 (x := .func 87) (B := []) hγ (hspec := c3)) | ((with_reducible refine Side.mk ?_); exact .inl rfl) | constructor)) ?_)
 refine Trip.sR tblOk (by repeat' (first | exact rfl | (apply Rule.sem; intro hγ; with_reducible apply F_call0 (x := .func 89) (B := []) hγ (hspec := k3)) | ((with_reducible refine Side.mk ?_); exact .inl rfl) | constructor)) ?_
 refine Trip.sR tblOk (by repeat' (first | exact rfl | (apply Rule.sem; intro hγ; with_reducible apply F_call0 (x := .func 87) (B := []) hγ (hspec := c4)) | ((with_reducible refine Side.mk ?_); exact .inl rfl) | constructor)) ?_
 refine Trip.rk ⟨[(0, sV s), (2, .ref 2 0), (4, .ref 4 0), (14, .ref 14 0), (15, iV m), (17, iV p4), (19, .ref 19 0), (20, iV n)], [(900, .arr 1 l.isEmpty (l.map fun p => sV p)), (2, .box [sV [], nilS, sV [], sV [], iV 0, iV 0, sV [], sV [], iV 0, iV 0, sV []]), (4, .box [sV tr, .osl 900 0 l.length l.length, sV [], sV [], iV 0, iV 0, sV [], sV [], iV 0, iV 0, sV []]), (14, .box [sV px.name, sV px.mail, iV px.time, iV px.zone]), (19, .box [sV py.name, sV py.mail, iV py.time, iV py.zone])]⟩ tblOk (by repeat' (first | exact rfl | (apply Rule.sem; intro hγ; with_reducible apply F_call0 (x := .func 89) (B := []) hγ (hspec := k4)) | ((with_reducible refine Side.mk ?_); exact .inl rfl) | constructor)) (Weak.kp (huo := by repeat' (first | exact rfl | exact plainL_map _ (fun _ => rfl) _ | constructor))) ?_
 refine Trip.seq (Trip.sR tblOk (by repeat' (first | exact rfl | (apply Rule.under tblOk; intro hγ; with_reducible apply Rule.index) | ((with_reducible refine Side.mk ?_); first | exact fun h => h | exact fun _ h => congrArg Bool.not h | exact fun _ => hγ | (have h2 := hγ; simp only [gpick, cond_true, cond_false, decide_eq_true_eq, Bool.and_eq_true, Bool.or_eq_true, Bool.not_eq_true', Bool.not_eq_false', Bool.or_eq_false_iff, decide_eq_false_iff_not, List.length_map] at h2; (try simp only [List.length_map]); omega)) | constructor)) ?_)
 apply Trip.cond (.tmp rfl)
 ·intro h3
  have h3 : (decide (m = 0) || decide (n = 0) || decide ((s.length : Int) ≤ (p4 : Int)) || !decide (((s.getD p4 0).toNat : Int) = 10)) = true := h3
  rw [← decide_not] at h3
  rw [if_pos h3] at d2
  rw [d2]
  refine Trip.sr tblOk ?_
  refine Trip.ret (rt2 [])
 intro h3
 have h3 : (decide (m = 0) || decide (n = 0) || decide ((s.length : Int) ≤ (p4 : Int)) || !decide (((s.getD p4 0).toNat : Int) = 10)) = false := h3
 have hp4 : p4 < s.length := by
  simp only [Bool.or_eq_false_iff, decide_eq_false_iff_not] at h3
  omega
 rw [← decide_not] at h3
 rw [if_neg (by rw [h3]; simp)] at d2
 refine Trip.skip (Trip.seq (Trip.sR tblOk (by repeat' (first | exact rfl | ((with_reducible refine Side.mk ?_); first | exact fun h => h | exact fun _ h => congrArg Bool.not h) | constructor)) ?_))
 apply Trip.cond (.tmp rfl)
 ·intro h4
  have h4 : (decide (m = 1) || decide (n = 1)) = true := h4
  rw [if_pos h4] at d2
  rw [d2]
  refine Trip.sr tblOk ?_
  refine Trip.ret (rt2 [])
 intro h4
 have h4 : (decide (m = 1) || decide (n = 1)) = false := h4
 rw [if_neg (by rw [h4]; simp)] at d2
 refine Trip.skip (Trip.sr tblOk ?_)
 refine Trip.sr tblOk ?_
 refine Trip.rk ⟨[(2, .ref 2 0), (4, .ref 4 0)], [(900, .arr 1 l.isEmpty (l.map fun p => sV p)), (2, .box [sV [], nilS, sV [], sV [], iV 0, iV 0, sV [], sV [], iV 0, iV 0, sV []]), (4, .box [sV tr, .osl 900 0 l.length l.length, sV px.name, sV px.mail, iV px.time, iV px.zone, sV py.name, sV py.mail, iV py.time, iV py.zone, sV ((s.take s.length).drop (p4 + 1))])]⟩ tblOk (by repeat' (first | exact rfl | ((first | with_reducible refine bokL ?_ | with_reducible refine Side.mk ?_); omega) | constructor)) (Weak.kp (huo := by repeat' (first | exact rfl | exact plainL_map _ (fun _ => rfl) _ | constructor))) ?_
 refine Trip.sR tblOk (by repeat' (first | exact rfl | (apply Rule.sem; intro hγ; with_reducible apply F_call0 (x := .func 67) (B := [900]) hγ (hspec := hcm)) | exact plainL_map _ (fun _ => rfl) _ | ((with_reducible refine Side.mk ?_); first | exact .inr ⟨rfl, rfl, rfl⟩ | (simp only [ln]; first | done | omega)) | constructor)) ?_
 refine Trip.seq (Trip.sr tblOk ?_)
 apply Trip.cond (.tmp rfl)
 ·intro h5
  have h5 : ¬ ce = 0 := by simpa using h5
  rw [if_neg h5] at d2
  rw [d2]
  refine Trip.sr tblOk ?_
  refine Trip.ret (rt2 [])
 intro h5
 have h5 : ce = 0 := by simpa using h5
 rw [if_pos h5] at d2
 rw [d2]
 refine Trip.skip (Trip.sr tblOk ?_)
 refine Trip.ret (rt2 [900] (hc := by repeat' (first | exact rfl | exact plainL_map _ (fun _ => rfl) _ | (refine Side.mk ?_; simp only [ln]; first | done | omega) | constructor)))
end Go.Proofs.Tryz
