/- A part of the proof: Hw, Hx, Hcl, Hso, Wa. -/
import Derived.Test.YteailifhgfijgaaGreatDoorPart32
set_option linter.unusedVariables false
set_option linter.unusedSimpArgs false
namespace Go.Proofs.Tryz
open Go Go.Sym Go.Graft
set_option maxRecDepth 20000
theorem whoOf_len16 (x : Str) : (whoOf x).2.name.length ≤ x.length ∧ (whoOf x).2.mail.length ≤ x.length := by
 have cl : ∀ s t : Str, (Lib.cut s t).1.length ≤ s.length ∧ (Lib.cut s t).2.1.length ≤ s.length := by
  intro s t
  rw [Lib.cut]
  split
  ·simp only [List.length_take, List.length_drop]; omega
  ·simp
 have h1 := cl x [32, 60]
 have h2 := cl (Lib.cut x [32, 60]).2.1 [62, 32]
 rw [whoOf]
 split
 ·simp [zeroPer]
 split
 ·simp [zeroPer]
 ·exact ⟨h1.1, by simp only; omega⟩
set_option maxHeartbeats 2000000 in
theorem cParse16 (s : Str) (hs : s.length ≤ 100000000) : Ctr prog 40 [sV s] [] (.tup [(comR s).2.pv (comR s).2.pars.isEmpty, iV (comR s).1]) [] [] := by
 have cl := fun (w : Str) (hw : w.length ≤ 1000) (a : Nat) (ha : a ≤ s.length) => cLine16 s w a (by omega) ha hw
 have c1 : Ctr prog 69 [sV s, iV 0, sV [116, 114, 101, 101]] [] (.tup [sV (lineV s kTree), iV (lineA s 0 [116, 114, 101, 101]), bV (lineOk s kTree)]) [] [] := cl [116, 114, 101, 101] (by decide) 0 (Nat.zero_le _)
 have c2 : ∀ a, a ≤ s.length → Ctr prog 69 [sV s, iV a, sV [112, 97, 114, 101, 110, 116]] [] (.tup [sV (lineV (s.drop a) kPar), iV (lineA s a [112, 97, 114, 101, 110, 116]), bV (lineOk (s.drop a) kPar)]) [] [] := cl [112, 97, 114, 101, 110, 116] (by decide)
 have c3 : ∀ a, a ≤ s.length → Ctr prog 69 [sV s, iV a, sV [97, 117, 116, 104, 111, 114]] [] (.tup [sV (lineV (s.drop a) kAut), iV (lineA s a [97, 117, 116, 104, 111, 114]), bV (lineOk (s.drop a) kAut)]) [] [] := cl [97, 117, 116, 104, 111, 114] (by decide)
 have c4 : ∀ a, a ≤ s.length → Ctr prog 69 [sV s, iV a, sV [99, 111, 109, 109, 105, 116, 116, 101, 114]] [] (.tup [sV (lineV (s.drop a) kCom), iV (lineA s a [99, 111, 109, 109, 105, 116, 116, 101, 114]), bV (lineOk (s.drop a) kCom)]) [] [] := cl [99, 111, 109, 109, 105, 116, 116, 101, 114] (by decide)
 have a1 : s.drop (lineA s 0 [116, 114, 101, 101]) = lineR s kTree ∧ lineA s 0 [116, 114, 101, 101] ≤ s.length := lineA_drop (s := s) [116, 114, 101, 101] (Nat.zero_le _)
 have a2 : ∀ a, a ≤ s.length → s.drop (lineA s a [112, 97, 114, 101, 110, 116]) = lineR (s.drop a) kPar ∧ lineA s a [112, 97, 114, 101, 110, 116] ≤ s.length := fun a => lineA_drop (s := s) [112, 97, 114, 101, 110, 116]
 have a3 : ∀ a, a ≤ s.length → s.drop (lineA s a [97, 117, 116, 104, 111, 114]) = lineR (s.drop a) kAut ∧ lineA s a [97, 117, 116, 104, 111, 114] ≤ s.length := fun a => lineA_drop (s := s) [97, 117, 116, 104, 111, 114]
 have a4 : ∀ a, a ≤ s.length → s.drop (lineA s a [99, 111, 109, 109, 105, 116, 116, 101, 114]) = lineR (s.drop a) kCom ∧ lineA s a [99, 111, 109, 109, 105, 116, 116, 101, 114] ≤ s.length := fun a => lineA_drop (s := s) [99, 111, 109, 109, 105, 116, 116, 101, 114]
 clear cl
 have hV := lineV_le s kTree
 have d0 := comR_bad (s := s)
 have d1 := comR_none (s := s)
 have d2 := fun s2 l => comR_some (s := s) (s2 := s2) (l := l)
 have k1 := cIs2 (lineV s kTree) (by omega)
 generalize comR s = res at *
 generalize lineV s kTree = tr at *
 generalize lineOk s kTree = ok1 at *
 generalize isId tr = id1 at *
 generalize lineA s 0 [116, 114, 101, 101] = p0 at *
 rw [← a1.1] at d1 d2
 have hp0 := a1.2
 clear a1
 refine Ctr.enter tblOk func40 rfl (by decide) rfl (nt := 132) rfl rfl rfl rfl ?_
 refine Trip.sr tblOk ?_
 refine Trip.sr tblOk ?_
 refine Trip.sR tblOk (by repeat' (first | exact rfl | (apply Rule.sem; intro hγ; with_reducible apply F_call0 (x := .func 69) (B := []) hγ (hspec := c1)) | ((with_reducible refine Side.mk ?_); exact .inl rfl) | constructor)) ?_
 refine Trip.seq (Trip.sR tblOk (by repeat' (first | exact rfl | (apply Rule.sem; intro hγ; with_reducible apply F_call0 (x := .func 70) (B := []) hγ (hspec := k1)) | ((with_reducible refine Side.mk ?_); first | exact .inl rfl | exact fun h => h | exact fun _ h => congrArg Bool.not h) | constructor)) ?_)
 apply Trip.cond (.tmp rfl)
 ·intro h
  have h : (ok1 && id1) = false := by
   have h : (!ok1 || !id1) = true := h
   revert h; cases ok1 <;> cases id1 <;> simp
  rw [d0 h]
  refine Trip.sr tblOk ?_
  refine Trip.ret (rt2 [])
 intro h
 have h : (ok1 && id1) = true := by
  have h : (!ok1 || !id1) = false := h
  revert h; cases ok1 <;> cases id1 <;> simp
 have d1 := d1 h
 have d2 := fun s2 l => d2 s2 l h
 clear d0
 refine Trip.skip (Trip.sr tblOk ?_)
 have c20 := c2 p0 hp0
 refine Trip.sR tblOk (by repeat' (first | exact rfl | (apply Rule.sem; intro hγ; with_reducible apply F_call0 (x := .func 69) (B := []) hγ (hspec := c20)) | ((with_reducible refine Side.mk ?_); exact .inl rfl) | constructor)) ?_
 refine Trip.seq (Trip.block ?_)
 apply Trip.loop (fun (x : Nat × List Str) => ⟨[(0, sV s), (2, .ref 2 0), (4, .ref 4 0), (6, iV x.1), (8, sV (lineV (s.drop x.1) kPar)), (9, iV (lineA s x.1 [112, 97, 114, 101, 110, 116])), (10, bV (lineOk (s.drop x.1) kPar))], [(900, .arr 1 x.2.isEmpty (x.2.map fun p => sV p)), (2, .box [sV [], nilS, sV [], sV [], iV 0, iV 0, sV [], sV [], iV 0, iV 0, sV []]), (4, .box [sV tr, .osl 900 0 x.2.length x.2.length, sV [], sV [], iV 0, iV 0, sV [], sV [], iV 0, iV 0, sV []])]⟩) (fun (x : Nat × List Str) => ParsR s p0 x) (fun (x : Nat × List Str) => s.length - x.1) ((p0, []))
 ·exact parsR_zero hp0
 ·refine Weak.trans (S2 := ⟨[(0, sV s), (2, .ref 2 0), (4, .ref 4 0), (6, iV p0), (8, sV (lineV (s.drop p0) kPar)), (9, iV (lineA s p0 [112, 97, 114, 101, 110, 116])), (10, bV (lineOk (s.drop p0) kPar))], [(2, .box [sV [], nilS, sV [], sV [], iV 0, iV 0, sV [], sV [], iV 0, iV 0, sV []]), (4, .box [sV tr, nilS, sV [], sV [], iV 0, iV 0, sV [], sV [], iV 0, iV 0, sV []])]⟩) ?_ ?_
  ·exact Weak.kp
  ·exact Weak.adopt 900 1 rfl rfl (by repeat' (first | exact rfl | constructor)) (by repeat' (first | exact rfl | constructor))
 intro x hx
 obtain ⟨a, l⟩ := x
 have hx2 := hx
 obtain ⟨_, hal, hl1, hl2⟩ := hx2
 dsimp only at *
 refine Trip.seq (Trip.sr tblOk ?_)
 apply Trip.cond (.tmp rfl)
 ·intro h2
  have h2 : lineOk (s.drop a) kPar = true := h2
  have hbad := parsR_bad hx h2
  obtain ⟨a2a, a2b⟩ := a2 a hal
  have hnext := fun hi => parsR_next hx h2 hi a2a a2b
  have k2 := cIs2 (lineV (s.drop a) kPar) (by have := lineV_le (s.drop a) kPar; rw [List.length_drop] at this; omega)
  generalize hv : lineV (s.drop a) kPar = v at *
  generalize isId v = id2 at *
  generalize hp2 : lineA s a [112, 97, 114, 101, 110, 116] = p2 at *
  refine Trip.skip (Trip.block (Trip.seq (Trip.sR tblOk (by repeat' (first | exact rfl | (apply Rule.sem; intro hγ; with_reducible apply F_call0 (x := .func 70) (B := []) hγ (hspec := k2)) | ((with_reducible refine Side.mk ?_); exact .inl rfl) | constructor)) ?_)))
  apply Trip.cond (.tmp rfl)
  ·intro h3
   have h3 : id2 = false := by simpa using h3
   rw [d1 (hbad h3)]
   refine Trip.sr tblOk ?_
   refine Trip.ret (rt2 [])
  intro h3
  have h3 : id2 = true := by simpa using h3
  obtain ⟨n1, n2⟩ := hnext h3
  refine Trip.skip ?_
  have c21 := c2 p2 a2b
  refine Trip.sR tblOk (by repeat' (first | exact rfl | ((with_reducible refine Side.mk ?_); (simp only [ln]; first | done | omega)) | constructor)) ?_
  refine Trip.sr tblOk ?_
  refine Trip.R tblOk (by repeat' (first | exact rfl | (apply Rule.sem; intro hγ; with_reducible apply F_call0 (x := .func 69) (B := []) hγ (hspec := c21)) | ((with_reducible refine Side.mk ?_); exact .inl rfl) | constructor)) ?_
  exact ⟨(p2, l ++ [v]), by exact n1, by first | omega | (dsimp only at *; omega), Weak.kp (ho := by repeat' (first | exact rfl | exact arrF (by simp) (by simp) | (refine Side.mk ?_; simp; done) | constructor)) (huo := by repeat' (first | exact rfl | exact plainL_map _ (fun _ => rfl) _ | constructor))⟩
 intro h2
 have h2 : lineOk (s.drop a) kPar = false := h2
 have d2 := d2 _ _ (parsR_end hx h2)
 clear d1 hx h2 c2 a2 c20
 try dsimp only at d2
 have c3 := c3 a hal
 obtain ⟨a3a, a3b⟩ := a3 a hal
 rw [← a3a] at d2
 have hx1 := lineV_le (s.drop a) kAut
 rw [List.length_drop] at hx1
 generalize lineA s a [97, 117, 116, 104, 111, 114] = p3 at *
 generalize lineV (s.drop a) kAut = x at *
 generalize lineOk (s.drop a) kAut = okx at *
 have w1 := whoOf_len16 x
 have k3 := cWho16 x okx (by omega)
 generalize whoM okx x = m at *
 generalize (whoOf x).2 = px at *
 have c4 := c4 p3 a3b
 obtain ⟨a4a, a4b⟩ := a4 p3 a3b
 rw [← a4a] at d2
 have hy1 := lineV_le (s.drop p3) kCom
 rw [List.length_drop] at hy1
 generalize lineA s p3 [99, 111, 109, 109, 105, 116, 116, 101, 114] = p4 at *
 generalize lineV (s.drop p3) kCom = y at *
 generalize lineOk (s.drop p3) kCom = oky at *
 have w2 := whoOf_len16 y
 have k4 := cWho16 y oky (by omega)
 generalize whoM oky y = n at *
 generalize (whoOf y).2 = py at *
 rw [drop_nil_iff, getD_drop, Nat.add_zero] at d2
 have e5 : (s.take s.length).drop (p4 + 1) = (s.drop p4).drop 1 := by rw [List.take_length, List.drop_drop]
 rw [← e5] at d2
 have hcm := cComE16 l.isEmpty ⟨tr, l, px, py, (s.take s.length).drop (p4 + 1)⟩ (by simp only; omega) (by simp only; omega) (fun p hp => by have := hl2 p hp; omega) (by simp only; omega) (by simp only; omega) (by simp only [List.length_drop, List.length_take]; omega)
 generalize hce : comE ⟨tr, l, px, py, (s.take s.length).drop (p4 + 1)⟩ = ce at *
 clear a3 a4 a3a a4a
 refine Trip.exit (Trip.sR tblOk (by repeat' (first | exact rfl | (apply Rule.sem; intro hγ; with_reducible apply F_call0 (x := .func 69) (B := []) hγ (hspec := c3)) | ((with_reducible refine Side.mk ?_); exact .inl rfl) | constructor)) ?_)
 refine Trip.sR tblOk (by repeat' (first | exact rfl | (apply Rule.sem; intro hγ; with_reducible apply F_call0 (x := .func 71) (B := []) hγ (hspec := k3)) | ((with_reducible refine Side.mk ?_); exact .inl rfl) | constructor)) ?_
 refine Trip.sR tblOk (by repeat' (first | exact rfl | (apply Rule.sem; intro hγ; with_reducible apply F_call0 (x := .func 69) (B := []) hγ (hspec := c4)) | ((with_reducible refine Side.mk ?_); exact .inl rfl) | constructor)) ?_
 refine Trip.rk ⟨[(0, sV s), (2, .ref 2 0), (4, .ref 4 0), (14, .ref 14 0), (15, iV m), (17, iV p4), (19, .ref 19 0), (20, iV n)], [(900, .arr 1 l.isEmpty (l.map fun p => sV p)), (2, .box [sV [], nilS, sV [], sV [], iV 0, iV 0, sV [], sV [], iV 0, iV 0, sV []]), (4, .box [sV tr, .osl 900 0 l.length l.length, sV [], sV [], iV 0, iV 0, sV [], sV [], iV 0, iV 0, sV []]), (14, .box [sV px.name, sV px.mail, iV px.time, iV px.zone]), (19, .box [sV py.name, sV py.mail, iV py.time, iV py.zone])]⟩ tblOk (by repeat' (first | exact rfl | (apply Rule.sem; intro hγ; with_reducible apply F_call0 (x := .func 71) (B := []) hγ (hspec := k4)) | ((with_reducible refine Side.mk ?_); exact .inl rfl) | constructor)) (Weak.kp (huo := by repeat' (first | exact rfl | exact plainL_map _ (fun _ => rfl) _ | constructor))) ?_
 refine Trip.seq (Trip.sR tblOk (by repeat' (first | exact rfl | (apply Rule.under tblOk; intro hγ; with_reducible apply Rule.index) | ((with_reducible refine Side.mk ?_); first | exact fun h => h | exact fun _ h => congrArg Bool.not h | exact fun _ => hγ | (have h2 := hγ; simp only [gpick, cond_true, cond_false, decide_eq_true_eq, Bool.and_eq_true, Bool.or_eq_true, Bool.not_eq_true', Bool.not_eq_false', Bool.or_eq_false_iff, decide_eq_false_iff_not, List.length_map] at h2; (try simp only [List.length_map]); omega)) | constructor)) ?_)
 apply Trip.cond (.tmp rfl)
 ·intro h3
  have h3 : (decide (m = 0) || decide (n = 0) || decide ((s.length : Int) ≤ (p4 : Int)) || !decide (((s.getD p4 0).toNat : Int) = 10)) = true := h3
  rw [← decide_not] at h3
  rw [if_pos h3] at d2
  rw [d2]
  refine Trip.sr tblOk ?_
  refine Trip.ret (rt2 [])
 intro h3
 have h3 : (decide (m = 0) || decide (n = 0) || decide ((s.length : Int) ≤ (p4 : Int)) || !decide (((s.getD p4 0).toNat : Int) = 10)) = false := h3
 have hp4 : p4 < s.length := by
  simp only [Bool.or_eq_false_iff, decide_eq_false_iff_not] at h3
  omega
 rw [← decide_not] at h3
 rw [if_neg (by rw [h3]; simp)] at d2
 refine Trip.skip (Trip.seq (Trip.sR tblOk (by repeat' (first | exact rfl | ((with_reducible refine Side.mk ?_); first | exact fun h => h | exact fun _ h => congrArg Bool.not h) | constructor)) ?_))
 apply Trip.cond (.tmp rfl)
 ·intro h4
  have h4 : (decide (m = 1) || decide (n = 1)) = true := h4
  rw [if_pos h4] at d2
  rw [d2]
  refine Trip.sr tblOk ?_
  refine Trip.ret (rt2 [])
 intro h4
 have h4 : (decide (m = 1) || decide (n = 1)) = false := h4
 rw [if_neg (by rw [h4]; simp)] at d2
 refine Trip.skip (Trip.sr tblOk ?_)
 refine Trip.sr tblOk ?_
 refine Trip.rk ⟨[(2, .ref 2 0), (4, .ref 4 0)], [(900, .arr 1 l.isEmpty (l.map fun p => sV p)), (2, .box [sV [], nilS, sV [], sV [], iV 0, iV 0, sV [], sV [], iV 0, iV 0, sV []]), (4, .box [sV tr, .osl 900 0 l.length l.length, sV px.name, sV px.mail, iV px.time, iV px.zone, sV py.name, sV py.mail, iV py.time, iV py.zone, sV ((s.take s.length).drop (p4 + 1))])]⟩ tblOk (by repeat' (first | exact rfl | ((first | with_reducible refine bokL ?_ | with_reducible refine Side.mk ?_); omega) | constructor)) (Weak.kp (huo := by repeat' (first | exact rfl | exact plainL_map _ (fun _ => rfl) _ | constructor))) ?_
 refine Trip.sR tblOk (by repeat' (first | exact rfl | (apply Rule.sem; intro hγ; with_reducible apply F_call0 (x := .func 72) (B := [900]) hγ (hspec := hcm)) | exact plainL_map _ (fun _ => rfl) _ | ((with_reducible refine Side.mk ?_); first | exact .inr ⟨rfl, rfl, rfl⟩ | (simp only [ln]; first | done | omega)) | constructor)) ?_
 refine Trip.seq (Trip.sr tblOk ?_)
 apply Trip.cond (.tmp rfl)
 ·intro h5
  have h5 : ¬ ce = 0 := by simpa using h5
  rw [if_neg h5] at d2
  rw [d2]
  refine Trip.sr tblOk ?_
  refine Trip.ret (rt2 [])
 intro h5
 have h5 : ce = 0 := by simpa using h5
 rw [if_pos h5] at d2
 rw [d2]
 refine Trip.skip (Trip.sr tblOk ?_)
 refine Trip.ret (rt2 [900] (hc := by repeat' (first | exact rfl | exact plainL_map _ (fun _ => rfl) _ | (refine Side.mk ?_; simp only [ln]; first | done | omega) | constructor)))
end Go.Proofs.Tryz
namespace Go.Proofs.Tryz
open Go Go.Sym Go.Graft
set_option maxRecDepth 20000
theorem tgR_def (s : Str) : tgR s =
  (let s1 := lineR s kObj
   let s2 := lineR s1 kTyp
   let s3 := lineR s2 kTag
   let s4 := lineR s3 kTgr
   let x := lineV s3 kTgr
   if (!lineOk s kObj || !lineOk s1 kTyp || !lineOk s2 kTag || decide (whoM (lineOk s3 kTgr) x = 0) || !isId (lineV s kObj) || decide (kindW (lineV s1 kTyp) = 0) || decide (s4 = []) || decide (¬ ((s4.getD 0 0).toNat : Int) = 10)) = true then (2, zeroTg)
   else
    let t : Tg := ⟨lineV s kObj, kindW (lineV s1 kTyp), lineV s2 kTag, (whoOf x).2, s4.drop 1⟩
    if tgE t = 0 then (0, t) else (tgE t, zeroTg)) := rfl
set_option maxHeartbeats 2000000 in
theorem cParseTg16 (s : Str) (hs : s.length ≤ 100000000) : Ctr prog 41 [sV s] [] (.tup [(tgR s).2.pv, iV (tgR s).1]) [] [] := by
  have cl := fun (w : Str) (hw : w.length ≤ 1000) (a : Nat) (ha : a ≤ s.length) => cLine16 s w a (by omega) ha hw
  have c1 : Ctr prog 69 [sV s, iV 0, sV [111, 98, 106, 101, 99, 116]] [] (.tup [sV (lineV s kObj), iV (lineA s 0 [111, 98, 106, 101, 99, 116]), bV (lineOk s kObj)]) [] [] := cl [111, 98, 106, 101, 99, 116] (by decide) 0 (Nat.zero_le _)
  have c2 : ∀ a, a ≤ s.length → Ctr prog 69 [sV s, iV a, sV [116, 121, 112, 101]] [] (.tup [sV (lineV (s.drop a) kTyp), iV (lineA s a [116, 121, 112, 101]), bV (lineOk (s.drop a) kTyp)]) [] [] := cl [116, 121, 112, 101] (by decide)
  have c3 : ∀ a, a ≤ s.length → Ctr prog 69 [sV s, iV a, sV [116, 97, 103]] [] (.tup [sV (lineV (s.drop a) kTag), iV (lineA s a [116, 97, 103]), bV (lineOk (s.drop a) kTag)]) [] [] := cl [116, 97, 103] (by decide)
  have c4 : ∀ a, a ≤ s.length → Ctr prog 69 [sV s, iV a, sV [116, 97, 103, 103, 101, 114]] [] (.tup [sV (lineV (s.drop a) kTgr), iV (lineA s a [116, 97, 103, 103, 101, 114]), bV (lineOk (s.drop a) kTgr)]) [] [] := cl [116, 97, 103, 103, 101, 114] (by decide)
  have a1 : s.drop (lineA s 0 [111, 98, 106, 101, 99, 116]) = lineR s kObj ∧ lineA s 0 [111, 98, 106, 101, 99, 116] ≤ s.length := lineA_drop (s := s) [111, 98, 106, 101, 99, 116] (Nat.zero_le _)
  have a2 : ∀ a, a ≤ s.length → s.drop (lineA s a [116, 121, 112, 101]) = lineR (s.drop a) kTyp ∧ lineA s a [116, 121, 112, 101] ≤ s.length := fun a => lineA_drop (s := s) [116, 121, 112, 101]
  have a3 : ∀ a, a ≤ s.length → s.drop (lineA s a [116, 97, 103]) = lineR (s.drop a) kTag ∧ lineA s a [116, 97, 103] ≤ s.length := fun a => lineA_drop (s := s) [116, 97, 103]
  have a4 : ∀ a, a ≤ s.length → s.drop (lineA s a [116, 97, 103, 103, 101, 114]) = lineR (s.drop a) kTgr ∧ lineA s a [116, 97, 103, 103, 101, 114] ≤ s.length := fun a => lineA_drop (s := s) [116, 97, 103, 103, 101, 114]
  clear cl
  have hV := lineV_le s kObj
  have d2 := tgR_def s
  dsimp only at d2
  have k1 := cIs2 (lineV s kObj) (by omega)
  generalize tgR s = res at *
  generalize lineV s kObj = ob at *
  generalize lineOk s kObj = ok1 at *
  generalize isId ob = id1 at *
  generalize lineA s 0 [111, 98, 106, 101, 99, 116] = p1 at *
  rw [← a1.1] at d2
  have hp1 := a1.2
  clear a1
  have c2 := c2 p1 hp1
  obtain ⟨a2a, a2b⟩ := a2 p1 hp1
  rw [← a2a] at d2
  generalize lineA s p1 [116, 121, 112, 101] = p2 at *
  have k2 := cKind2 (lineV (s.drop p1) kTyp)
  generalize lineV (s.drop p1) kTyp = w at *
  generalize lineOk (s.drop p1) kTyp = ok2 at *
  generalize kindW w = kw at *
  have c3 := c3 p2 a2b
  obtain ⟨a3a, a3b⟩ := a3 p2 a2b
  rw [← a3a] at d2
  have hn1 := lineV_le (s.drop p2) kTag
  rw [List.length_drop] at hn1
  generalize lineA s p2 [116, 97, 103] = p3 at *
  generalize lineV (s.drop p2) kTag = nm at *
  generalize lineOk (s.drop p2) kTag = ok3 at *
  have c4 := c4 p3 a3b
  obtain ⟨a4a, a4b⟩ := a4 p3 a3b
  rw [← a4a] at d2
  have hx1 := lineV_le (s.drop p3) kTgr
  rw [List.length_drop] at hx1
  generalize lineA s p3 [116, 97, 103, 103, 101, 114] = p4 at *
  generalize lineV (s.drop p3) kTgr = x at *
  generalize lineOk (s.drop p3) kTgr = okx at *
  have w1 := whoOf_len16 x
  have k3 := cWho16 x okx (by omega)
  generalize whoM okx x = m at *
  generalize (whoOf x).2 = px at *
  rw [drop_nil_iff, getD_drop, Nat.add_zero] at d2
  have e5 : (s.take s.length).drop (p4 + 1) = (s.drop p4).drop 1 := by rw [List.take_length, List.drop_drop]
  rw [← e5] at d2
  have hcm := cTgE16 ⟨ob, kw, nm, px, (s.take s.length).drop (p4 + 1)⟩ (by simp only; omega) (by simp only; omega) (by simp only; omega) (by simp only [List.length_drop, List.length_take]; omega)
  generalize hce : tgE ⟨ob, kw, nm, px, (s.take s.length).drop (p4 + 1)⟩ = ce at *
  clear a2 a3 a4 a2a a3a a4a
  refine Ctr.enter tblOk func41 rfl (by decide) rfl (nt := 108) rfl rfl rfl rfl ?_
  refine Trip.sr tblOk ?_
  refine Trip.sR tblOk (by repeat' (first | exact rfl | (apply Rule.sem; intro hγ; with_reducible apply F_call0 (x := .func 69) (B := []) hγ (hspec := c1)) | ((with_reducible refine Side.mk ?_); exact .inl rfl) | constructor)) ?_
  refine Trip.sR tblOk (by repeat' (first | exact rfl | (apply Rule.sem; intro hγ; with_reducible apply F_call0 (x := .func 69) (B := []) hγ (hspec := c2)) | ((with_reducible refine Side.mk ?_); exact .inl rfl) | constructor)) ?_
  refine Trip.sR tblOk (by repeat' (first | exact rfl | (apply Rule.sem; intro hγ; with_reducible apply F_call0 (x := .func 69) (B := []) hγ (hspec := c3)) | ((with_reducible refine Side.mk ?_); exact .inl rfl) | constructor)) ?_
  refine Trip.sR tblOk (by repeat' (first | exact rfl | (apply Rule.sem; intro hγ; with_reducible apply F_call0 (x := .func 69) (B := []) hγ (hspec := c4)) | ((with_reducible refine Side.mk ?_); exact .inl rfl) | constructor)) ?_
  refine Trip.sR tblOk (by repeat' (first | exact rfl | (apply Rule.sem; intro hγ; with_reducible apply F_call0 (x := .func 71) (B := []) hγ (hspec := k3)) | ((with_reducible refine Side.mk ?_); exact .inl rfl) | constructor)) ?_
  refine Trip.dk ⟨[(0, sV s), (2, .ref 2 0), (4, sV ob), (6, bV ok1), (9, bV ok2), (12, bV ok3), (14, iV p4), (17, iV m), (18, .ref 18 0)], [(2, .box [sV [], iV 0, sV [], sV [], sV [], iV 0, iV 0, sV []]), (18, .box [sV ob, iV kw, sV nm, sV px.name, sV px.mail, iV px.time, iV px.zone, sV []])]⟩ tblOk mixed (by repeat' (first | exact rfl | (apply Rule.sem; intro hγ; with_reducible apply F_call0 (x := .func 73) (B := []) hγ (hspec := k2)) | ((with_reducible refine Side.mk ?_); exact .inl rfl) | constructor)) Weak.kp ?_
  refine Trip.seq (Trip.sR tblOk (by repeat' (first | exact rfl | (apply Rule.under tblOk; intro hγ; with_reducible apply Rule.index) | (apply Rule.sem; intro hγ; with_reducible apply F_call0 (x := .func 70) (B := []) hγ (hspec := k1)) | ((with_reducible refine Side.mk ?_); first | exact .inl rfl | exact fun h => h | exact fun _ h => congrArg Bool.not h | exact fun _ => hγ | (have h2 := hγ; simp only [gpick, cond_true, cond_false, decide_eq_true_eq, Bool.and_eq_true, Bool.or_eq_true, Bool.not_eq_true', Bool.not_eq_false', Bool.or_eq_false_iff, decide_eq_false_iff_not, List.length_map] at h2; (try simp only [List.length_map]); omega)) | constructor)) ?_)
  apply Trip.cond (.tmp rfl)
  · intro h3
    have h3 : (!ok1 || !ok2 || !ok3 || decide (m = 0) || !id1 || decide (kw = 0) || decide ((s.length : Int) ≤ (p4 : Int)) || !decide (((s.getD p4 0).toNat : Int) = 10)) = true := h3
    rw [← decide_not] at h3
    rw [if_pos h3] at d2
    rw [d2]
    refine Trip.sr tblOk ?_
    refine Trip.ret (rt2 [])
  intro h3
  have h3 : (!ok1 || !ok2 || !ok3 || decide (m = 0) || !id1 || decide (kw = 0) || decide ((s.length : Int) ≤ (p4 : Int)) || !decide (((s.getD p4 0).toNat : Int) = 10)) = false := h3
  have hp4 : p4 < s.length := by
    simp only [Bool.or_eq_false_iff, decide_eq_false_iff_not] at h3
    omega
  rw [← decide_not] at h3
  rw [if_neg (by rw [h3]; simp)] at d2
  refine Trip.skip ?_
  refine Trip.rk ⟨[(2, .ref 2 0), (18, .ref 18 0)], [(2, .box [sV [], iV 0, sV [], sV [], sV [], iV 0, iV 0, sV []]), (18, .box [sV ob, iV kw, sV nm, sV px.name, sV px.mail, iV px.time, iV px.zone, sV ((s.take s.length).drop (p4 + 1))])]⟩ tblOk (by repeat' (first | exact rfl | ((first | with_reducible refine bokL ?_ | with_reducible refine Side.mk ?_); omega) | constructor)) Weak.kp ?_
  refine Trip.sR tblOk (by repeat' (first | exact rfl | (apply Rule.sem; intro hγ; with_reducible apply F_call0 (x := .func 74) (B := []) hγ (hspec := hcm)) | ((with_reducible refine Side.mk ?_); exact .inl rfl) | constructor)) ?_
  refine Trip.seq (Trip.sr tblOk ?_)
  apply Trip.cond (.tmp rfl)
  · intro h5
    have h5 : ¬ ce = 0 := by simpa using h5
    rw [if_neg h5] at d2
    rw [d2]
    refine Trip.sr tblOk ?_
    refine Trip.ret (rt2 [])
  intro h5
  have h5 : ce = 0 := by simpa using h5
  rw [if_pos h5] at d2
  rw [d2]
  refine Trip.skip (Trip.sr tblOk ?_)
  refine Trip.ret (rt2 [])
end Go.Proofs.Tryz
namespace Go.Proofs.Tryz
open Go Go.Sym Go.Graft
set_option maxRecDepth 20000
end Go.Proofs.Tryz
namespace Go.Proofs.Tryz
open Go Go.Sym Go.Graft
set_option maxRecDepth 20000
set_option maxHeartbeats 400000 in
theorem cCloneS (nl : Bool) (es : List PV) (hnl : nl = true → es = []) (hp : plainL es = true) (hc : cellsOkL (cellsOf es) = true) (hb : es.length ≤ 1000000000000) :
  Ctr prog 34 [.sl nl 1 es] [] (.osl FN 0 es.length es.length) [] [.arr 1 nl es] := by
 refine Ctr.enter tblOk func34 rfl (by decide) rfl (nt := 8) rfl rfl rfl rfl ?_
 refine Trip.seq ?_
 apply Trip.reg tblOk
 ·repeat' (first | exact rfl | constructor)
 ·exact rfl
 refine Trip.seq ?_
 refine Trip.seq ?_
 apply Trip.reg tblOk
 ·repeat' (first | exact rfl | constructor)
 ·exact rfl
 apply Trip.cond (.tmp rfl)
 ·intro hn
  have := hnl hn
  subst this
  subst hn
  refine Trip.seq ?_
  apply Trip.reg tblOk
  ·repeat' (first | exact rfl | constructor)
  ·exact rfl
  apply Trip.weak (Weak.adopt (t' := [(2, .osl 900 0 0 0)]) (o' := []) 900 1 rfl rfl (by repeat' (first | exact rfl | constructor)) (by repeat' (first | exact rfl | constructor)))
  refine Trip.ret ?_
  refine ⟨_, _, [900], [], [], [.arr 1 true []], .cons rfl .nil, .one, .nil, .cons rfl .nil, rfl, rfl, rfl, .nil, ?_, ?_⟩
  all_goals repeat' (first | exact rfl | constructor)
 ·intro hn
  have hn : nl = false := hn
  subst hn
  refine Trip.skip ?_
  apply Trip.regk ⟨[(2, .osl 5 0 es.length es.length)], [(5, .arr 1 false es)]⟩ tblOk
  ·repeat' (first | exact rfl | exact hc | exact Nat.le_trans (by simp; omega) (Nat.le_refl _) | constructor)
  ·exact rfl
  ·apply Weak.keep
   ·exact rfl
   ·repeat' (first | exact rfl | constructor)
   ·repeat' (first | exact rfl | constructor)
   ·exact rfl
   ·repeat' (first | exact rfl | exact hp | constructor)
  refine Trip.ret ?_
  refine ⟨_, _, [5], [], [], [.arr 1 false es], .cons rfl .nil, .one, .nil, .cons rfl .nil, rfl, rfl, rfl, .nil, ?_, ?_⟩
  all_goals repeat' (first | exact rfl | exact hp | constructor)
theorem le_bl : ∀ a b : Str, (a ≤ b) ↔ bl b a = false
 | a, b => by
  have key : ∀ x y : Str, x < y ↔ bl x y = true := by
   intro x
   induction x with
   | nil =>
    intro y
    cases y with
    | nil => simp [bl, Op.bytesLess]
    | cons b y => simp [bl, Op.bytesLess]
   | cons a x ih =>
    intro y
    cases y with
    | nil => simp [bl, Op.bytesLess]
    | cons b y => rw [bl_cons, List.cons_lt_cons_iff, ih]
  rw [← List.not_lt, key]
  cases bl b a <;> simp
abbrev msort (l : List Str) : List Str := l.mergeSort fun x y => decide (x ≤ y)
theorem msort_asc {l : List Str} (h : l.Nodup) : asc (msort l) := by
 have h1 : (msort l).Pairwise fun x y => decide (x ≤ y) = true := by
  apply List.pairwise_mergeSort
  ·intro a b c
   rw [decide_eq_true_eq, decide_eq_true_eq, decide_eq_true_eq]
   exact List.le_trans
  ·intro a b
   rw [Bool.or_eq_true, decide_eq_true_eq, decide_eq_true_eq]
   exact List.le_total a b
 have h2 : (msort l).Nodup := (List.mergeSort_perm l _).nodup_iff.2 h
 refine (h1.and h2).imp ?_
 rintro a b ⟨hab, hne⟩
 rw [decide_eq_true_eq, le_bl] at hab
 rcases bl_tri a b with h | h | h
 ·exact h
 ·rw [hab] at h; simp at h
 ·exact absurd h hne
theorem msort_mem (l : List Str) (x : Str) : x ∈ msort l ↔ x ∈ l := List.mem_mergeSort
theorem msort_len (l : List Str) : (msort l).length = l.length := List.length_mergeSort l
theorem cSortS (n : Nat) (nl : Bool) (l : List Str) (hn : n = l.length) (hs : l.length < 4611686018427387904) : Ctr prog 55 [.osl PN 0 n n] [.arr 1 nl (l.map fun s => sV s)] (.tup []) [.arr 1 nl ((msort l).map fun s => sV s)] [] :=
 Ctr.of_sort ⟨_, func55, rfl, rfl⟩ hn (msort_len l) (fun h => by subst h; exact List.mergeSort_nil) (fun w => Tryz.slices_Sort_string_none none 0 w) (fun w blk off cap hH hb => Tryz.slices_Sort_string blk off cap l w hH hb hs)
end Go.Proofs.Tryz
namespace Go.Proofs.Tryz
open Go Go.Sym Go.Graft
set_option maxRecDepth 20000
abbrev rfV (x : Str × Str × Str) : PV := .agg [sV x.1, sV x.2.1, sV x.2.2]
abbrev lnV (x : Str × Str × Per × Str) : PV := .agg [sV x.1, sV x.2.1, sV x.2.2.1.name, sV x.2.2.1.mail, iV x.2.2.1.time, iV x.2.2.1.zone, sV x.2.2.2]
abbrev lgV (x : Str × Bool × List (Str × Str × Per × Str)) : PV := .agg [sV x.1, .sl x.2.1 7 (x.2.2.map lnV)]
structure Vw where
 nl : Bool
 l : List It
 nr : Bool
 rf : List (Str × Str × Str)
 ng : Bool
 lg : List (Str × Bool × List (Str × Str × Per × Str))
 nc : Bool
 cuts : List Str
abbrev Vw.cells (v : Vw) : List PV := [.sl v.nl 3 (v.l.map It.pv), .sl v.nr 3 (v.rf.map rfV), .sl v.ng 2 (v.lg.map lgV), .sl v.nc 1 (v.cuts.map fun x => sV x)]
abbrev Vw.pv (v : Vw) : PV := .agg v.cells
def rdC (l : List It) (cuts : List Str) (id : Str) : Com := if rdE l id ≠ 0 then zeroCom else if hasS cuts id = true then { (comP l[place l id]!.body).2 with pars := [] } else (comP l[place l id]!.body).2
theorem rdC_pars (l : List It) (cuts : List Str) (id : Str) : (rdC l cuts id).pars = rdP l cuts id := by
 rw [rdC, rdP]
 split
 ·rfl
 split <;> rfl
set_option maxHeartbeats 1000000 in
theorem cRead (v : Vw) (id : Str) (hs : v.l.length ≤ 1000000000) (hc : v.cuts.length ≤ 1000000000) (hb : ∀ x ∈ v.l, x.body.length ≤ 100000000) : Ctr prog 53 [v.pv, sV id] [] (.tup [(rdC v.l v.cuts id).pv (rdC v.l v.cuts id).pars.isEmpty, iV (rdE v.l id)]) [] [] := by
 obtain ⟨nl, l, nr, rf, ng, lg, nc, cuts⟩ := v
 dsimp only at hs hc hb ⊢
 have c1 := cGet nl l id hs
 have c3 := cContainsS nc cuts id (by omega)
 have hE : rdE l id = if placed l id = false then 171 else if l[place l id]!.kind ≠ 3 then 140 else (comP l[place l id]!.body).1 := rfl
 have hC : rdC l cuts id = if rdE l id ≠ 0 then zeroCom else if hasS cuts id = true then { (comP l[place l id]!.body).2 with pars := [] } else (comP l[place l id]!.body).2 := rfl
 have hbb : placed l id = true → l[place l id]!.body.length ≤ 100000000 := fun hp => hb _ (bang_mem (placed_lt hp).1)
 generalize rdC l cuts id = C at *
 generalize rdE l id = E at *
 generalize hasS cuts id = q at *
 cases hpl : placed l id with
 | false =>
  rw [hpl] at c1 hE
  simp only [Bool.false_eq_true, if_false] at c1
  rw [if_pos rfl] at hE
  subst hE
  rw [if_pos (by decide)] at hC
  subst hC
  refine Ctr.enter tblOk func53 rfl (by decide) rfl (nt := 41) rfl rfl rfl rfl ?_
  refine Trip.sr tblOk ?_
  refine Trip.sR tblOk (by repeat' (first | exact rfl | (apply Rule.sem; intro hγ; with_reducible apply F_call0 (x := .func 35) (B := []) hγ (hspec := c1)) | ((with_reducible refine Side.mk ?_); exact .inl rfl) | constructor)) ?_
  refine Trip.seq (Trip.block (Trip.sr tblOk ?_))
  apply Trip.cond (.tmp rfl)
  ·intro h
   refine Trip.sr tblOk ?_
   refine Trip.ret (rt2 [])
  intro h
  simp at h
 | true =>
  rw [hpl] at c1 hE hbb
  have hbb := hbb rfl
  simp only [if_true] at c1
  rw [if_neg (by simp)] at hE
  generalize l[place l id]!.kind = k at *
  generalize l[place l id]!.body = b at *
  have c2 := cParseC b hbb
  generalize comP b = r at *
  obtain ⟨e, tree, pars, ⟨an, am, at', az⟩, ⟨cn, cm, ct, cz⟩, text⟩ := r
  dsimp only at *
  generalize hni : pars.isEmpty = ni at *
  refine Ctr.enter tblOk func53 rfl (by decide) rfl (nt := 41) rfl rfl rfl rfl ?_
  refine Trip.sr tblOk ?_
  refine Trip.sR tblOk (by repeat' (first | exact rfl | (apply Rule.sem; intro hγ; with_reducible apply F_call0 (x := .func 35) (B := []) hγ (hspec := c1)) | ((with_reducible refine Side.mk ?_); exact .inl rfl) | constructor)) ?_
  refine Trip.seq (Trip.block (Trip.sr tblOk ?_))
  apply Trip.cond (.tmp rfl)
  ·intro h
   simp at h
  intro h
  refine Trip.sr tblOk ?_
  apply Trip.cond (.tmp rfl)
  ·intro h2
   have h2 : k ≠ 3 := by simpa using h2
   rw [if_pos h2] at hE
   subst hE
   rw [if_pos (by decide)] at hC
   subst hC
   refine Trip.sr tblOk ?_
   refine Trip.ret (rt2 [])
  intro h2
  have h2 : k = 3 := by simpa using h2
  rw [if_neg (by simp [h2])] at hE
  subst hE
  refine Trip.skip (Trip.sR tblOk (by repeat' (first | exact rfl | (apply Rule.sem; intro hγ; with_reducible apply F_call0 (x := .func 63) (B := []) hγ (hspec := c2)) | ((with_reducible refine Side.mk ?_); exact .inl rfl) | constructor)) ?_)
  refine Trip.seq (Trip.sr tblOk ?_)
  apply Trip.cond (.tmp rfl)
  ·intro h3
   have h3 : E ≠ 0 := by simpa using h3
   rw [if_pos h3] at hC
   subst hC
   refine Trip.sr tblOk ?_
   refine Trip.ret (rt2 [])
  intro h3
  have h3 : E = 0 := by simpa using h3
  rw [if_neg (by simp [h3])] at hC
  subst h3
  refine Trip.skip (Trip.seq (Trip.sR tblOk (by repeat' (first | exact rfl | (apply Rule.sem; intro hγ; with_reducible apply F_call0 (x := .func 65) (B := []) hγ (hspec := c3)) | ((with_reducible refine Side.mk ?_); exact .inl rfl) | constructor)) ?_))
  apply Trip.cond (.tmp rfl)
  ·intro h4
   have h4 : q = true := h4
   rw [if_pos h4] at hC
   subst hC
   refine Trip.r tblOk ?_
   refine Trip.sr tblOk ?_
   refine Trip.ret (rt2 [])
  ·intro h4
   have h4 : ¬ q = true := by rw [show q = false from h4]; simp
   rw [if_neg h4] at hC
   subst hC
   dsimp only
   rw [hni]
   refine Trip.skip (Trip.sr tblOk ?_)
   refine Trip.ret (rt2 [])
theorem cParW (v : Vw) (id : Str) (hs : v.l.length ≤ 1000000000) (hc : v.cuts.length ≤ 1000000000) (hb : ∀ x ∈ v.l, x.body.length ≤ 100000000) : Ctr prog 26 [v.pv, sV id] [] (.tup [.sl (rdP v.l v.cuts id).isEmpty 1 ((rdP v.l v.cuts id).map fun x => sV x), iV (rdE v.l id)]) [] [] := by
 have c1 := cRead v id hs hc hb
 obtain ⟨nl, l, nr, rf, ng, lg, nc, cuts⟩ := v
 dsimp only at *
 have hP := rdC_pars l cuts id
 have hz : rdE l id ≠ 0 → rdP l cuts id = [] := fun h => by rw [rdP, if_pos h]
 have hl : (rdP l cuts id).length ≤ 100000000 := by
  rw [rdP]
  split
  ·simp
  ·rename_i h
   split
   ·simp
   ·have hp := rdE_placed (l := l) (id := id) (by simpa using h)
    have := comR_len l[place l id]!.body
    rw [com_same]
    exact Nat.le_trans this (hb _ (bang_mem (placed_lt hp).1))
 rw [hP] at c1
 generalize rdC l cuts id = C at *
 generalize rdP l cuts id = ps at *
 generalize rdE l id = E at *
 have c2 := cCloneS ps.isEmpty (ps.map fun x => sV x) (fun h => by rw [List.isEmpty_iff] at h; rw [h]; rfl) (plainL_map _ (fun _ => rfl) _) (cellsOk_map _ (fun _ => rfl) _) (by rw [List.length_map]; omega)
 generalize hni : ps.isEmpty = ni at *
 obtain ⟨tree, pars, ⟨an, am, at', az⟩, ⟨cn, cm, ct, cz⟩, text⟩ := C
 dsimp only at *
 subst hP
 refine Ctr.enter tblOk func26 rfl (by decide) rfl (nt := 20) rfl rfl rfl rfl ?_
 refine Trip.sr tblOk ?_
 refine Trip.sR tblOk (by repeat' (first | exact rfl | (apply Rule.sem; intro hγ; with_reducible apply F_call0 (x := .func 53) (B := []) hγ (hspec := c1)) | ((with_reducible refine Side.mk ?_); exact .inl rfl) | constructor)) ?_
 refine Trip.seq (Trip.sr tblOk ?_)
 apply Trip.cond (.tmp rfl)
 ·intro h
  have h : E ≠ 0 := by simpa using h
  have hz := hz h
  subst hz
  subst hni
  refine Trip.sr tblOk ?_
  refine Trip.ret (rt2 [])
 intro h
 have h : E = 0 := by simpa using h
 subst h
 refine Trip.skip (Trip.sR tblOk (by repeat' (first | exact rfl | (apply Rule.sem; intro hγ; with_reducible apply F_call (x := .func 34) (σ := []) (B := []) (news := [900]) hγ (hspec := c2)) | exact plainL_map _ (fun _ => rfl) _ | ((with_reducible refine Side.mk ?_); exact .inl rfl) | constructor)) ?_)
 refine Trip.ret (rt2 [900] (hc := by repeat' (first | exact rfl | exact plainL_map _ (fun _ => rfl) _ | constructor)))
theorem cParS (v : Vw) (id : Str) (hs : v.l.length ≤ 1000000000) (hc : v.cuts.length ≤ 1000000000) (hb : ∀ x ∈ v.l, x.body.length ≤ 100000000) : Ctr prog 14 [v.pv, sV id] [] (.tup [.sl (rdP v.l v.cuts id).isEmpty 1 ((rdP v.l v.cuts id).map fun x => sV x), iV (rdE v.l id)]) [] [] := by
 have c1 := cParW v id hs hc hb
 generalize rdP v.l v.cuts id = ps at *
 generalize rdE v.l id = E at *
 refine Ctr.enter tblOk func14 rfl (by decide) rfl (nt := 11) rfl rfl rfl rfl ?_
 refine Trip.sr tblOk ?_
 refine Trip.sR tblOk (by repeat' (first | exact rfl | (apply Rule.sem; intro hγ; with_reducible apply F_call0 (x := .func 26) (B := []) hγ (hspec := c1)) | ((with_reducible refine Side.mk ?_); exact .inl rfl) | constructor)) ?_
 refine Trip.ret (rt2 [])
end Go.Proofs.Tryz
