/- A part of the proof: Hw, GOrd, GSto. -/
import Derived.Test.YtbnnmnbidkpmcaaGreatDoorPart34
set_option linter.unusedVariables false
set_option linter.unusedSimpArgs false
namespace Go.Proofs.Tryz
open Go Go.Sym Go.Graft
set_option maxRecDepth 20000
theorem whoOf_len16 (x : Str) : (whoOf x).2.name.length ≤ x.length ∧ (whoOf x).2.mail.length ≤ x.length := by
  have cl : ∀ s t : Str, (Lib.cut s t).1.length ≤ s.length ∧ (Lib.cut s t).2.1.length ≤ s.length := by
    intro s t
    rw [Lib.cut]
    split
    · simp only [List.length_take, List.length_drop]; omega
    · simp
  have h1 := cl x [32, 60]
  have h2 := cl (Lib.cut x [32, 60]).2.1 [62, 32]
  rw [whoOf]
  split
  · simp [zeroPer]
  split
  · simp [zeroPer]
  · exact ⟨h1.1, by simp only; omega⟩
set_option maxHeartbeats 2000000 in
theorem cParse16 (s : Str) (hs : s.length ≤ 100000000) : Ctr prog 51 [sV s] [] (.tup [(comR s).2.pv (comR s).2.pars.isEmpty, iV (comR s).1]) [] [] := by
  have cl := fun (w : Str) (hw : w.length ≤ 1000) (a : Nat) (ha : a ≤ s.length) => cLine16 s w a (by omega) ha hw
  have c1 : Ctr prog 87 [sV s, iV 0, sV [116, 114, 101, 101]] [] (.tup [sV (lineV s kTree), iV (lineA s 0 [116, 114, 101, 101]), bV (lineOk s kTree)]) [] [] := cl [116, 114, 101, 101] (by decide) 0 (Nat.zero_le _)
  have c2 : ∀ a, a ≤ s.length → Ctr prog 87 [sV s, iV a, sV [112, 97, 114, 101, 110, 116]] [] (.tup [sV (lineV (s.drop a) kPar), iV (lineA s a [112, 97, 114, 101, 110, 116]), bV (lineOk (s.drop a) kPar)]) [] [] := cl [112, 97, 114, 101, 110, 116] (by decide)
  have c3 : ∀ a, a ≤ s.length → Ctr prog 87 [sV s, iV a, sV [97, 117, 116, 104, 111, 114]] [] (.tup [sV (lineV (s.drop a) kAut), iV (lineA s a [97, 117, 116, 104, 111, 114]), bV (lineOk (s.drop a) kAut)]) [] [] := cl [97, 117, 116, 104, 111, 114] (by decide)
  have c4 : ∀ a, a ≤ s.length → Ctr prog 87 [sV s, iV a, sV [99, 111, 109, 109, 105, 116, 116, 101, 114]] [] (.tup [sV (lineV (s.drop a) kCom), iV (lineA s a [99, 111, 109, 109, 105, 116, 116, 101, 114]), bV (lineOk (s.drop a) kCom)]) [] [] := cl [99, 111, 109, 109, 105, 116, 116, 101, 114] (by decide)
  have a1 : s.drop (lineA s 0 [116, 114, 101, 101]) = lineR s kTree ∧ lineA s 0 [116, 114, 101, 101] ≤ s.length := lineA_drop (s := s) [116, 114, 101, 101] (Nat.zero_le _)
  have a2 : ∀ a, a ≤ s.length → s.drop (lineA s a [112, 97, 114, 101, 110, 116]) = lineR (s.drop a) kPar ∧ lineA s a [112, 97, 114, 101, 110, 116] ≤ s.length := fun a => lineA_drop (s := s) [112, 97, 114, 101, 110, 116]
  have a3 : ∀ a, a ≤ s.length → s.drop (lineA s a [97, 117, 116, 104, 111, 114]) = lineR (s.drop a) kAut ∧ lineA s a [97, 117, 116, 104, 111, 114] ≤ s.length := fun a => lineA_drop (s := s) [97, 117, 116, 104, 111, 114]
  have a4 : ∀ a, a ≤ s.length → s.drop (lineA s a [99, 111, 109, 109, 105, 116, 116, 101, 114]) = lineR (s.drop a) kCom ∧ lineA s a [99, 111, 109, 109, 105, 116, 116, 101, 114] ≤ s.length := fun a => lineA_drop (s := s) [99, 111, 109, 109, 105, 116, 116, 101, 114]
  clear cl
  have hV := lineV_le s kTree
  have d0 := comR_bad (s := s)
  have d1 := comR_none (s := s)
  have d2 := fun s2 l => comR_some (s := s) (s2 := s2) (l := l)
  have k1 := cIs2 (lineV s kTree) (by omega)
  generalize comR s = res at *
  generalize lineV s kTree = tr at *
  generalize lineOk s kTree = ok1 at *
  generalize isId tr = id1 at *
  generalize lineA s 0 [116, 114, 101, 101] = p0 at *
  rw [← a1.1] at d1 d2
  have hp0 := a1.2
  clear a1
  refine Ctr.enter tblOk func51 rfl (by decide) rfl (nt := 132) rfl rfl rfl rfl ?_
  refine Trip.seq ?_
  apply Trip.reg tblOk
  · repeat' (first | exact rfl | constructor)
  · exact rfl
  refine Trip.seq ?_
  apply Trip.reg tblOk
  · repeat' (first | exact rfl | constructor)
  · exact rfl
  refine Trip.seq ?_
  apply Trip.reg tblOk
  · repeat' (first | exact rfl | (apply Rule.sem; intro hγ; with_reducible apply F_call0 (x := .func 87) (B := []) hγ (hspec := c1)) | ((with_reducible refine Side.mk ?_); exact .inl rfl) | constructor)
  · exact rfl
  refine Trip.seq ?_
  refine Trip.seq ?_
  apply Trip.reg tblOk
  · repeat' (first | exact rfl | (apply Rule.sem; intro hγ; with_reducible apply F_call0 (x := .func 88) (B := []) hγ (hspec := k1)) | ((with_reducible refine Side.mk ?_); first | exact .inl rfl | exact fun h => h | exact fun _ h => congrArg Bool.not h) | constructor)
  · exact rfl
  apply Trip.cond (.tmp rfl)
  · intro h
    have h : (ok1 && id1) = false := by
      have h : (!ok1 || !id1) = true := h
      revert h; cases ok1 <;> cases id1 <;> simp
    rw [d0 h]
    refine Trip.seq ?_
    apply Trip.reg tblOk
    · repeat' (first | exact rfl | constructor)
    · exact rfl
    refine Trip.ret ?_
    apply Ret2 []
    · repeat' (first | exact rfl | constructor)
    · exact rfl
    · repeat' constructor
    · repeat' constructor
  intro h
  have h : (ok1 && id1) = true := by
    have h : (!ok1 || !id1) = false := h
    revert h; cases ok1 <;> cases id1 <;> simp
  have d1 := d1 h
  have d2 := fun s2 l => d2 s2 l h
  clear d0
  refine Trip.skip ?_
  refine Trip.seq ?_
  apply Trip.reg tblOk
  · repeat' (first | exact rfl | constructor)
  · exact rfl
  have c20 := c2 p0 hp0
  refine Trip.seq ?_
  apply Trip.reg tblOk
  · repeat' (first | exact rfl | (apply Rule.sem; intro hγ; with_reducible apply F_call0 (x := .func 87) (B := []) hγ (hspec := c20)) | ((with_reducible refine Side.mk ?_); exact .inl rfl) | constructor)
  · exact rfl
  refine Trip.seq ?_
  refine Trip.block ?_
  apply Trip.loop (fun (x : Nat × List Str) => ⟨[(0, sV s), (2, .ref 2 0), (4, .ref 4 0), (6, iV x.1), (8, sV (lineV (s.drop x.1) kPar)), (9, iV (lineA s x.1 [112, 97, 114, 101, 110, 116])), (10, bV (lineOk (s.drop x.1) kPar))], [(900, .arr 1 x.2.isEmpty (x.2.map fun p => sV p)), (2, .box [sV [], nilS, sV [], sV [], iV 0, iV 0, sV [], sV [], iV 0, iV 0, sV []]), (4, .box [sV tr, .osl 900 0 x.2.length x.2.length, sV [], sV [], iV 0, iV 0, sV [], sV [], iV 0, iV 0, sV []])]⟩) (fun (x : Nat × List Str) => ParsR s p0 x) (fun (x : Nat × List Str) => s.length - x.1) ((p0, []))
  · exact parsR_zero hp0
  · refine Weak.trans (S2 := ⟨[(0, sV s), (2, .ref 2 0), (4, .ref 4 0), (6, iV p0), (8, sV (lineV (s.drop p0) kPar)), (9, iV (lineA s p0 [112, 97, 114, 101, 110, 116])), (10, bV (lineOk (s.drop p0) kPar))], [(2, .box [sV [], nilS, sV [], sV [], iV 0, iV 0, sV [], sV [], iV 0, iV 0, sV []]), (4, .box [sV tr, nilS, sV [], sV [], iV 0, iV 0, sV [], sV [], iV 0, iV 0, sV []])]⟩) ?_ ?_
    · apply Weak.keep
      · exact rfl
      · repeat' (first | exact rfl | constructor)
      · repeat' (first | exact rfl | constructor)
      · exact rfl
      · repeat' (first | exact rfl | constructor)
    · exact Weak.adopt 900 1 rfl rfl (by repeat' (first | exact rfl | constructor)) (by repeat' (first | exact rfl | constructor))
  intro x hx
  obtain ⟨a, l⟩ := x
  have hx2 := hx
  obtain ⟨_, hal, hl1, hl2⟩ := hx2
  dsimp only at *
  refine Trip.seq ?_
  refine Trip.seq ?_
  apply Trip.reg tblOk
  · repeat' (first | exact rfl | constructor)
  · exact rfl
  apply Trip.cond (.tmp rfl)
  · intro h2
    have h2 : lineOk (s.drop a) kPar = true := h2
    have hbad := parsR_bad hx h2
    obtain ⟨a2a, a2b⟩ := a2 a hal
    have hnext := fun hi => parsR_next hx h2 hi a2a a2b
    have k2 := cIs2 (lineV (s.drop a) kPar) (by have := lineV_le (s.drop a) kPar; rw [List.length_drop] at this; omega)
    generalize hv : lineV (s.drop a) kPar = v at *
    generalize isId v = id2 at *
    generalize hp2 : lineA s a [112, 97, 114, 101, 110, 116] = p2 at *
    refine Trip.skip ?_
    refine Trip.block ?_
    refine Trip.seq ?_
    refine Trip.seq ?_
    apply Trip.reg tblOk
    · repeat' (first | exact rfl | (apply Rule.sem; intro hγ; with_reducible apply F_call0 (x := .func 88) (B := []) hγ (hspec := k2)) | ((with_reducible refine Side.mk ?_); exact .inl rfl) | constructor)
    · exact rfl
    apply Trip.cond (.tmp rfl)
    · intro h3
      have h3 : id2 = false := by simpa using h3
      rw [d1 (hbad h3)]
      refine Trip.seq ?_
      apply Trip.reg tblOk
      · repeat' (first | exact rfl | constructor)
      · exact rfl
      refine Trip.ret ?_
      apply Ret2 []
      · repeat' (first | exact rfl | constructor)
      · exact rfl
      · repeat' constructor
      · repeat' constructor
    intro h3
    have h3 : id2 = true := by simpa using h3
    obtain ⟨n1, n2⟩ := hnext h3
    refine Trip.skip ?_
    have c21 := c2 p2 a2b
    refine Trip.seq ?_
    apply Trip.reg tblOk
    · repeat' (first | exact rfl | ((with_reducible refine Side.mk ?_); (simp only [ln]; first | done | omega)) | constructor)
    · exact rfl
    refine Trip.seq ?_
    apply Trip.reg tblOk
    · repeat' (first | exact rfl | constructor)
    · exact rfl
    apply Trip.reg tblOk
    · repeat' (first | exact rfl | (apply Rule.sem; intro hγ; with_reducible apply F_call0 (x := .func 87) (B := []) hγ (hspec := c21)) | ((with_reducible refine Side.mk ?_); exact .inl rfl) | constructor)
    · exact rfl
    refine ⟨(p2, l ++ [v]), ?_, ?_, ?_⟩
    · exact n1
    · first | omega | (dsimp only at *; omega)
    · apply Weak.keep
      · exact rfl
      · repeat' (first | exact rfl | constructor)
      · repeat' (first | exact rfl | exact arrF (by simp) (by simp) | (refine Side.mk ?_; simp; done) | constructor)
      · exact rfl
      · repeat' (first | exact rfl | exact plainL_map _ (fun _ => rfl) _ | constructor)
  intro h2
  have h2 : lineOk (s.drop a) kPar = false := h2
  have d2 := d2 _ _ (parsR_end hx h2)
  clear d1 hx h2 c2 a2 c20
  try dsimp only at d2
  have c3 := c3 a hal
  obtain ⟨a3a, a3b⟩ := a3 a hal
  rw [← a3a] at d2
  have hx1 := lineV_le (s.drop a) kAut
  rw [List.length_drop] at hx1
  generalize lineA s a [97, 117, 116, 104, 111, 114] = p3 at *
  generalize lineV (s.drop a) kAut = x at *
  generalize lineOk (s.drop a) kAut = okx at *
  have w1 := whoOf_len16 x
  have k3 := cWho16 x okx (by omega)
  generalize whoM okx x = m at *
  generalize (whoOf x).2 = px at *
  have c4 := c4 p3 a3b
  obtain ⟨a4a, a4b⟩ := a4 p3 a3b
  rw [← a4a] at d2
  have hy1 := lineV_le (s.drop p3) kCom
  rw [List.length_drop] at hy1
  generalize lineA s p3 [99, 111, 109, 109, 105, 116, 116, 101, 114] = p4 at *
  generalize lineV (s.drop p3) kCom = y at *
  generalize lineOk (s.drop p3) kCom = oky at *
  have w2 := whoOf_len16 y
  have k4 := cWho16 y oky (by omega)
  generalize whoM oky y = n at *
  generalize (whoOf y).2 = py at *
  rw [drop_nil_iff, getD_drop, Nat.add_zero] at d2
  have e5 : (s.take s.length).drop (p4 + 1) = (s.drop p4).drop 1 := by rw [List.take_length, List.drop_drop]
  rw [← e5] at d2
  have hcm := cComE16 l.isEmpty ⟨tr, l, px, py, (s.take s.length).drop (p4 + 1)⟩ (by simp only; omega) (by simp only; omega) (fun p hp => by have := hl2 p hp; omega) (by simp only; omega) (by simp only; omega) (by simp only [List.length_drop, List.length_take]; omega)
  generalize hce : comE ⟨tr, l, px, py, (s.take s.length).drop (p4 + 1)⟩ = ce at *
  clear a3 a4 a3a a4a
  refine Trip.exit ?_
  refine Trip.seq ?_
  apply Trip.reg tblOk
  · repeat' (first | exact rfl | (apply Rule.sem; intro hγ; with_reducible apply F_call0 (x := .func 87) (B := []) hγ (hspec := c3)) | ((with_reducible refine Side.mk ?_); exact .inl rfl) | constructor)
  · exact rfl
  refine Trip.seq ?_
  apply Trip.reg tblOk
  · repeat' (first | exact rfl | (apply Rule.sem; intro hγ; with_reducible apply F_call0 (x := .func 89) (B := []) hγ (hspec := k3)) | ((with_reducible refine Side.mk ?_); exact .inl rfl) | constructor)
  · exact rfl
  refine Trip.seq ?_
  apply Trip.reg tblOk
  · repeat' (first | exact rfl | (apply Rule.sem; intro hγ; with_reducible apply F_call0 (x := .func 87) (B := []) hγ (hspec := c4)) | ((with_reducible refine Side.mk ?_); exact .inl rfl) | constructor)
  · exact rfl
  apply Trip.regk ⟨[(0, sV s), (2, .ref 2 0), (4, .ref 4 0), (14, .ref 14 0), (15, iV m), (17, iV p4), (19, .ref 19 0), (20, iV n)], [(900, .arr 1 l.isEmpty (l.map fun p => sV p)), (2, .box [sV [], nilS, sV [], sV [], iV 0, iV 0, sV [], sV [], iV 0, iV 0, sV []]), (4, .box [sV tr, .osl 900 0 l.length l.length, sV [], sV [], iV 0, iV 0, sV [], sV [], iV 0, iV 0, sV []]), (14, .box [sV px.name, sV px.mail, iV px.time, iV px.zone]), (19, .box [sV py.name, sV py.mail, iV py.time, iV py.zone])]⟩ tblOk
  · repeat' (first | exact rfl | (apply Rule.sem; intro hγ; with_reducible apply F_call0 (x := .func 89) (B := []) hγ (hspec := k4)) | ((with_reducible refine Side.mk ?_); exact .inl rfl) | constructor)
  · exact rfl
  · apply Weak.keep
    · exact rfl
    · repeat' (first | exact rfl | constructor)
    · repeat' (first | exact rfl | constructor)
    · exact rfl
    · repeat' (first | exact rfl | exact plainL_map _ (fun _ => rfl) _ | constructor)
  refine Trip.seq ?_
  refine Trip.seq ?_
  apply Trip.reg tblOk
  · repeat' (first | exact rfl | (apply Rule.under tblOk; intro hγ; with_reducible apply Rule.index) | ((with_reducible refine Side.mk ?_); first | exact fun h => h | exact fun _ h => congrArg Bool.not h | exact fun _ => hγ | (have h2 := hγ; simp only [gpick, cond_true, cond_false, decide_eq_true_eq, Bool.and_eq_true, Bool.or_eq_true, Bool.not_eq_true', Bool.not_eq_false', Bool.or_eq_false_iff, decide_eq_false_iff_not, List.length_map] at h2; (try simp only [List.length_map]); omega)) | constructor)
  · exact rfl
  apply Trip.cond (.tmp rfl)
  · intro h3
    have h3 : (decide (m = 0) || decide (n = 0) || decide ((s.length : Int) ≤ (p4 : Int)) || !decide (((s.getD p4 0).toNat : Int) = 10)) = true := h3
    rw [← decide_not] at h3
    rw [if_pos h3] at d2
    rw [d2]
    refine Trip.seq ?_
    apply Trip.reg tblOk
    · repeat' (first | exact rfl | constructor)
    · exact rfl
    refine Trip.ret ?_
    apply Ret2 []
    · repeat' (first | exact rfl | constructor)
    · exact rfl
    · repeat' constructor
    · repeat' constructor
  intro h3
  have h3 : (decide (m = 0) || decide (n = 0) || decide ((s.length : Int) ≤ (p4 : Int)) || !decide (((s.getD p4 0).toNat : Int) = 10)) = false := h3
  have hp4 : p4 < s.length := by
    simp only [Bool.or_eq_false_iff, decide_eq_false_iff_not] at h3
    omega
  rw [← decide_not] at h3
  rw [if_neg (by rw [h3]; simp)] at d2
  refine Trip.skip ?_
  refine Trip.seq ?_
  refine Trip.seq ?_
  apply Trip.reg tblOk
  · repeat' (first | exact rfl | ((with_reducible refine Side.mk ?_); first | exact fun h => h | exact fun _ h => congrArg Bool.not h) | constructor)
  · exact rfl
  apply Trip.cond (.tmp rfl)
  · intro h4
    have h4 : (decide (m = 1) || decide (n = 1)) = true := h4
    rw [if_pos h4] at d2
    rw [d2]
    refine Trip.seq ?_
    apply Trip.reg tblOk
    · repeat' (first | exact rfl | constructor)
    · exact rfl
    refine Trip.ret ?_
    apply Ret2 []
    · repeat' (first | exact rfl | constructor)
    · exact rfl
    · repeat' constructor
    · repeat' constructor
  intro h4
  have h4 : (decide (m = 1) || decide (n = 1)) = false := h4
  rw [if_neg (by rw [h4]; simp)] at d2
  refine Trip.skip ?_
  refine Trip.seq ?_
  apply Trip.reg tblOk
  · repeat' (first | exact rfl | constructor)
  · exact rfl
  refine Trip.seq ?_
  apply Trip.reg tblOk
  · repeat' (first | exact rfl | constructor)
  · exact rfl
  apply Trip.regk ⟨[(2, .ref 2 0), (4, .ref 4 0)], [(900, .arr 1 l.isEmpty (l.map fun p => sV p)), (2, .box [sV [], nilS, sV [], sV [], iV 0, iV 0, sV [], sV [], iV 0, iV 0, sV []]), (4, .box [sV tr, .osl 900 0 l.length l.length, sV px.name, sV px.mail, iV px.time, iV px.zone, sV py.name, sV py.mail, iV py.time, iV py.zone, sV ((s.take s.length).drop (p4 + 1))])]⟩ tblOk
  · repeat' (first | exact rfl | ((first | with_reducible refine bokL ?_ | with_reducible refine Side.mk ?_); omega) | constructor)
  · exact rfl
  · apply Weak.keep
    · exact rfl
    · repeat' (first | exact rfl | constructor)
    · repeat' (first | exact rfl | constructor)
    · exact rfl
    · repeat' (first | exact rfl | exact plainL_map _ (fun _ => rfl) _ | constructor)
  refine Trip.seq ?_
  apply Trip.reg tblOk
  · repeat' (first | exact rfl | (apply Rule.sem; intro hγ; with_reducible apply F_call0 (x := .func 67) (B := [900]) hγ (hspec := hcm)) | exact plainL_map _ (fun _ => rfl) _ | ((with_reducible refine Side.mk ?_); first | exact .inr ⟨rfl, rfl, rfl⟩ | (simp only [ln]; first | done | omega)) | constructor)
  · exact rfl
  refine Trip.seq ?_
  refine Trip.seq ?_
  apply Trip.reg tblOk
  · repeat' (first | exact rfl | constructor)
  · exact rfl
  apply Trip.cond (.tmp rfl)
  · intro h5
    have h5 : ¬ ce = 0 := by simpa using h5
    rw [if_neg h5] at d2
    rw [d2]
    refine Trip.seq ?_
    apply Trip.reg tblOk
    · repeat' (first | exact rfl | constructor)
    · exact rfl
    refine Trip.ret ?_
    apply Ret2 []
    · repeat' (first | exact rfl | constructor)
    · exact rfl
    · repeat' constructor
    · repeat' constructor
  intro h5
  have h5 : ce = 0 := by simpa using h5
  rw [if_pos h5] at d2
  rw [d2]
  refine Trip.skip ?_
  refine Trip.seq ?_
  apply Trip.reg tblOk
  · repeat' (first | exact rfl | constructor)
  · exact rfl
  refine Trip.ret ?_
  apply Ret2 [900]
  · repeat' (first | exact rfl | constructor)
  · exact rfl
  · repeat' (first | exact rfl | exact plainL_map _ (fun _ => rfl) _ | (refine Side.mk ?_; simp only [ln]; first | done | omega) | constructor)
  · repeat' constructor
end Go.Proofs.Tryz
namespace Go.Graft
abbrev bl (a b : Str) : Bool := Op.bytesLess a b
theorem u8_tri (a b : UInt8) : a < b ∨ b < a ∨ a = b := by
  rcases Nat.lt_trichotomy a.toNat b.toNat with h | h | h
  · exact .inl (UInt8.lt_iff_toNat_lt.2 h)
  · exact .inr (.inr (UInt8.toNat.inj h))
  · exact .inr (.inl (UInt8.lt_iff_toNat_lt.2 h))
theorem u8_irr (a : UInt8) : ¬ a < a := fun h => by have := UInt8.lt_iff_toNat_lt.1 h; omega
theorem u8_asym {a b : UInt8} (h : a < b) : ¬ b < a := fun h' => by
  have h3 := UInt8.lt_iff_toNat_lt.1 h; have h4 := UInt8.lt_iff_toNat_lt.1 h'; omega
theorem u8_trans {a b c : UInt8} (h : a < b) (h' : b < c) : a < c := by
  have h3 := UInt8.lt_iff_toNat_lt.1 h; have h4 := UInt8.lt_iff_toNat_lt.1 h'; exact UInt8.lt_iff_toNat_lt.2 (by omega)
theorem bl_cons (a b : UInt8) (x y : Str) : bl (a :: x) (b :: y) = true ↔ a < b ∨ (a = b ∧ bl x y = true) := by
  simp only [bl, Op.bytesLess]
  rcases u8_tri a b with h | h | h
  · have hne : ¬ a = b := fun e => u8_irr b (e ▸ h)
    simp [h]
  · have hne : ¬ a = b := fun e => u8_irr b (e ▸ h)
    have hnl := u8_asym h
    simp [hne, hnl]
  · subst h
    simp
theorem bl_irr : ∀ a : Str, bl a a = false
  | [] => rfl
  | b :: r => by
    have ih := bl_irr r
    cases h : bl (b :: r) (b :: r) with
    | false => rfl
    | true =>
      rw [bl_cons] at h
      rcases h with h | h
      · exact absurd h (u8_irr b)
      · rw [ih] at h; simp at h
theorem bl_trans : ∀ {a b c : Str}, bl a b = true → bl b c = true → bl a c = true
  | [], b, [], _, h => by cases b <;> simp [bl, Op.bytesLess] at h
  | [], _, _ :: _, _, _ => rfl
  | a :: x, [], c, h, _ => by simp [bl, Op.bytesLess] at h
  | a :: x, b :: y, [], _, h => by simp [bl, Op.bytesLess] at h
  | a :: x, b :: y, c :: z, h, h' => by
    rw [bl_cons] at *
    rcases h with h | ⟨rfl, h⟩ <;> rcases h' with h' | ⟨rfl, h'⟩
    · exact .inl (u8_trans h h')
    · exact .inl h
    · exact .inl h'
    · exact .inr ⟨rfl, bl_trans h h'⟩
theorem bl_tri : ∀ a b : Str, bl a b = true ∨ bl b a = true ∨ a = b
  | [], [] => .inr (.inr rfl)
  | [], _ :: _ => .inl rfl
  | _ :: _, [] => .inr (.inl rfl)
  | a :: x, b :: y => by
    rw [bl_cons, bl_cons]
    rcases u8_tri a b with h | h | rfl
    · exact .inl (.inl h)
    · exact .inr (.inl (.inl h))
    · rcases bl_tri x y with h | h | rfl
      · exact .inl (.inr ⟨rfl, h⟩)
      · exact .inr (.inl (.inr ⟨rfl, h⟩))
      · exact .inr (.inr rfl)
theorem bl_asym {a b : Str} (h : bl a b = true) : bl b a = false := by
  cases h' : bl b a with
  | false => rfl
  | true => have := bl_trans h h'; rw [bl_irr] at this; simp at this
theorem hvAt_spec (less : Nat → Bool) (hm : ∀ i j, i ≤ j → less j = true → less i = true) : ∀ (d lo hi : Nat), hi - lo = d → lo ≤ hi → (∀ i, i < lo → less i = true) → (∀ i, hi ≤ i → less i = false) →
    (∀ i, i < hvAt less lo hi → less i = true) ∧ ∀ i, hvAt less lo hi ≤ i → less i = false := by
  intro d
  induction d using Nat.strongRecOn with
  | _ d ih =>
    intro lo hi hd hle h1 h2
    by_cases h : lo < hi
    · rw [hvAt_lt less lo hi h]
      split
      · rename_i hl
        exact ih (hi - ((lo + hi) / 2 + 1)) (by omega) ((lo + hi) / 2 + 1) hi rfl (by omega) (fun i hi => hm i _ (by omega) hl) h2
      · rename_i hl
        have hl : less ((lo + hi) / 2) = false := by simpa using hl
        refine ih ((lo + hi) / 2 - lo) (by omega) lo ((lo + hi) / 2) rfl (by omega) h1 fun i hi2 => ?_
        cases h3 : less i with
        | false => rfl
        | true => have := hm _ i hi2 h3; rw [hl] at this; simp at this
    · rw [hvAt_ge less lo hi h]
      exact ⟨h1, fun i hi2 => h2 i (by omega)⟩
def asc (l : List Str) : Prop := l.Pairwise fun a b => bl a b = true
theorem asc_at {l : List Str} (h : asc l) {i j : Nat} (hij : i < j) (hj : j < l.length) : bl l[i]! l[j]! = true := by
  rw [getElem!_pos l i (by omega), getElem!_pos l j hj]
  exact List.pairwise_iff_getElem.1 h i j (by omega) hj hij
theorem spot_spec {l : List Str} (h : asc l) (x : Str) : spot l x ≤ l.length ∧ (∀ i, i < spot l x → bl l[i]! x = true) ∧ ∀ i, spot l x ≤ i → i < l.length → bl l[i]! x = false := by
  have key := hvAt_spec (fun i => decide (i < l.length) && bl l[i]! x) (fun i j hij hj => by
    simp only [Bool.and_eq_true, decide_eq_true_eq] at hj ⊢
    refine ⟨by omega, ?_⟩
    by_cases e : i = j
    · subst e; exact hj.2
    · exact bl_trans (asc_at h (by omega) hj.1) hj.2) l.length 0 l.length (by omega) (by omega) (fun i hi => by omega) (fun i hi => by simp; omega)
  have e : hvAt (fun i => decide (i < l.length) && bl l[i]! x) 0 l.length = spot l x := by
    rw [spot, halve_eq]
    have gen : ∀ (d lo hi : Nat), hi - lo = d → hi ≤ l.length → hvAt (fun i => decide (i < l.length) && bl l[i]! x) lo hi = hvAt (fun i => Op.bytesLess l[i]! x) lo hi := by
      intro d
      induction d using Nat.strongRecOn with
      | _ d ih =>
        intro lo hi hd hle
        by_cases hlt : lo < hi
        · rw [hvAt_lt _ lo hi hlt, hvAt_lt _ lo hi hlt, decide_eq_true (by omega : (lo + hi) / 2 < l.length), Bool.true_and]
          split
          · exact ih _ (by omega) _ _ rfl hle
          · exact ih _ (by omega) _ _ rfl (by omega)
        · rw [hvAt_ge _ lo hi hlt, hvAt_ge _ lo hi hlt]
    exact gen _ 0 l.length rfl (Nat.le_refl _)
  rw [e] at key
  have hle := (hvAt_le (fun i => Op.bytesLess l[i]! x) _ 0 l.length rfl (by omega)).2
  rw [← halve_eq] at hle
  refine ⟨hle, fun i hi => ?_, fun i h1 h2 => ?_⟩
  · have := key.1 i hi; simp only [Bool.and_eq_true] at this; exact this.2
  · have := key.2 i h1
    simp only [Bool.and_eq_false_iff, decide_eq_false_iff_not] at this
    exact this.resolve_left (by omega)
def holdsP (l : List Str) (x : Str) : Bool := decide (spot l x < l.length) && decide (l[spot l x]! = x)
theorem holds_iff {l : List Str} (h : asc l) (x : Str) : holdsP l x = true ↔ x ∈ l := by
  obtain ⟨h1, h2, h3⟩ := spot_spec h x
  simp only [holdsP, Bool.and_eq_true, decide_eq_true_eq]
  constructor
  · rintro ⟨h4, h5⟩
    rw [← h5, getElem!_pos l _ h4]
    exact List.getElem_mem h4
  · intro hx
    obtain ⟨i, hi, rfl⟩ := List.getElem_of_mem hx
    have e : spot l l[i] = i := by
      rcases Nat.lt_trichotomy (spot l l[i]) i with h4 | h4 | h4
      · have := h3 _ (Nat.le_refl _) (by omega)
        have h5 := asc_at h h4 hi
        rw [getElem!_pos l i hi] at h5
        rw [h5] at this; simp at this
      · exact h4
      · have := h2 i h4
        rw [getElem!_pos l i hi, bl_irr] at this; simp at this
    rw [e, getElem!_pos l i hi]
    exact ⟨hi, rfl⟩
def insS (l : List Str) (x : Str) : List Str := if holdsP l x = true then l else l.take (spot l x) ++ [x] ++ l.drop (spot l x)
theorem insS_mem {l : List Str} (x y : Str) (h : asc l) : y ∈ insS l x ↔ y = x ∨ y ∈ l := by
  rw [insS]
  split
  · rename_i hx
    have := (holds_iff h x).1 hx
    constructor
    · exact .inr
    · rintro (rfl | h); exact this; exact h
  · rw [List.mem_append, List.mem_append, List.mem_singleton]
    have e : y ∈ l ↔ y ∈ l.take (spot l x) ∨ y ∈ l.drop (spot l x) := by rw [← List.mem_append, List.take_append_drop]
    rw [e]
    constructor
    · rintro ((h | h) | h)
      · exact .inr (.inl h)
      · exact .inl h
      · exact .inr (.inr h)
    · rintro (h | h | h)
      · exact .inl (.inr h)
      · exact .inl (.inl h)
      · exact .inr h
theorem insS_asc {l : List Str} (x : Str) (h : asc l) : asc (insS l x) := by
  rw [insS]
  split
  · exact h
  · rename_i hx
    obtain ⟨h1, h2, h3⟩ := spot_spec h x
    have h4 : ∀ i, spot l x ≤ i → i < l.length → bl x l[i]! = true := by
      intro i hi hil
      have h5 := h3 i hi hil
      rcases bl_tri x l[i]! with h6 | h6 | h6
      · exact h6
      · rw [h5] at h6; simp at h6
      · exfalso
        apply hx
        rw [holds_iff h]
        rw [h6, getElem!_pos l i hil]
        exact List.getElem_mem hil
    have ht : ∀ a ∈ l.take (spot l x), bl a x = true := by
      intro a ha
      obtain ⟨i, hi, rfl⟩ := List.getElem_of_mem ha
      rw [List.length_take] at hi
      have := h2 i (by omega)
      rw [getElem!_pos l i (by omega)] at this
      rw [List.getElem_take]; exact this
    have hd : ∀ b ∈ l.drop (spot l x), bl x b = true := by
      intro b hb
      obtain ⟨i, hi, rfl⟩ := List.getElem_of_mem hb
      rw [List.length_drop] at hi
      have := h4 (spot l x + i) (by omega) (by omega)
      rw [getElem!_pos l _ (by omega)] at this
      rw [List.getElem_drop]; exact this
    rw [asc, List.append_assoc, List.pairwise_append]
    refine ⟨h.sublist (List.take_sublist _ _), ?_, ?_⟩
    · rw [List.singleton_append, List.pairwise_cons]
      exact ⟨hd, h.sublist (List.drop_sublist _ _)⟩
    · intro a ha b hb
      rw [List.singleton_append, List.mem_cons] at hb
      rcases hb with rfl | hb
      · exact ht a ha
      · exact bl_trans (ht a ha) (hd b hb)
theorem asc_unique : ∀ {a b : List Str}, asc a → asc b → (∀ x, x ∈ a ↔ x ∈ b) → a = b
  | [], [], _, _, _ => rfl
  | [], y :: b, _, _, h => by have := (h y).2 (by simp); simp at this
  | x :: a, [], _, _, h => by have := (h x).1 (by simp); simp at this
  | x :: a, y :: b, ha, hb, h => by
    have ha' := List.pairwise_cons.1 ha
    have hb' := List.pairwise_cons.1 hb
    have e : x = y := by
      rcases List.mem_cons.1 ((h x).1 (by simp)) with e | hx
      · exact e
      · rcases List.mem_cons.1 ((h y).2 (by simp)) with e | hy
        · exact e.symm
        · have h1 := hb'.1 x hx
          have h2 := ha'.1 y hy
          rw [bl_asym h1] at h2; simp at h2
    subst e
    congr 1
    refine asc_unique ha'.2 hb'.2 fun z => ?_
    have hz := h z
    rw [List.mem_cons, List.mem_cons] at hz
    constructor
    · intro hza
      rcases hz.1 (.inr hza) with rfl | h5
      · have := ha'.1 z hza; rw [bl_irr] at this; simp at this
      · exact h5
    · intro hzb
      rcases hz.2 (.inr hzb) with rfl | h5
      · have := hb'.1 z hzb; rw [bl_irr] at this; simp at this
      · exact h5
def sortN (l : List Str) : Nat → List Str
  | 0 => []
  | i + 1 => insS (sortN l i) l[i]!
theorem sortN_asc (l : List Str) : ∀ i, asc (sortN l i)
  | 0 => .nil
  | i + 1 => insS_asc _ (sortN_asc l i)
theorem sortN_mem (l : List Str) (x : Str) : ∀ i, i ≤ l.length → (x ∈ sortN l i ↔ x ∈ l.take i)
  | 0, _ => by simp [sortN]
  | i + 1, h => by
    rw [sortN, insS_mem _ _ (sortN_asc l i), sortN_mem l x i (by omega), take_snoc l i (by omega), List.mem_append, List.mem_singleton, or_comm]
def sortS (l : List Str) : List Str := sortN l l.length
theorem sortS_asc (l : List Str) : asc (sortS l) := sortN_asc l _
theorem sortS_mem (l : List Str) (x : Str) : x ∈ sortS l ↔ x ∈ l := by rw [sortS, sortN_mem l x _ (Nat.le_refl _), List.take_length]
theorem insS_len (l : List Str) (x : Str) : (insS l x).length ≤ l.length + 1 := by
  rw [insS]
  split
  · omega
  · simp only [List.length_append, List.length_take, List.length_drop, List.length_singleton]; omega
theorem sortN_len (l : List Str) : ∀ i, (sortN l i).length ≤ i
  | 0 => Nat.le_refl _
  | i + 1 => by have := sortN_len l i; have := insS_len (sortN l i) l[i]!; rw [sortN]; omega
theorem holds_sort (l : List Str) (x : Str) : holdsP (sortS l) x = hasS l x := by
  rw [Bool.eq_iff_iff, holds_iff (sortS_asc l), sortS_mem, hasS, decide_eq_true_eq]
end Go.Graft
namespace Go.Graft
open Go.Sym
def nmsOf (k : Int) (b : Str) (cut : Bool) : List Str := if (cut && decide (k = 3)) = true then (linksOf k b).take 1 else linksOf k b
theorem dedup_len (l : List Str) : (dedup l).length ≤ l.length := dedN_len l _
theorem linksOf_len (k : Int) (b : Str) : (linksOf k b).length ≤ 1048577 := by
  rw [linksOf]
  split
  · simp
  · rename_i h
    have h1 := namesOf_len k b
    have h2 := dedup_len (namesOf k b)
    have h3 : objErr k b = 0 := by
      have h : wholeE k b = 0 := by simpa using h
      rw [wholeE] at h
      by_cases h2 : objErr k b ≠ 0
      · rw [if_pos h2] at h; exact h
      · simpa using h2
    have h4 := objErr_len h3
    omega
def itemBad (l : List It) (i : Nat) : Bool := (decide (0 < (i : Int)) && !Op.bytesLess l[i - 1]!.id l[i]!.id) || !decide (wholeE l[i]!.kind l[i]!.body = 0) || !decide (objId l[i]!.kind l[i]!.body = l[i]!.id)
def rightSt (l : List It) : Bool := decide ((l.length : Int) ≤ 65536) && (List.range l.length).all fun i => !itemBad l i
theorem right_big {l : List It} (h : (65536 : Int) < l.length) : rightSt l = false := by rw [rightSt, decide_eq_false (by omega)]; rfl
theorem right_no {l : List It} {i : Nat} (h : i < l.length) (hb : itemBad l i = true) : rightSt l = false := by
  rw [rightSt, Bool.and_eq_false_iff]
  right
  rw [List.all_eq_false]
  exact ⟨i, List.mem_range.2 h, by rw [hb]; simp⟩
theorem right_yes {l : List It} (h0 : (l.length : Int) ≤ 65536) (h : ∀ i, i < l.length → itemBad l i = false) : rightSt l = true := by
  rw [rightSt, decide_eq_true h0, Bool.true_and, List.all_eq_true]
  intro i hi
  rw [h i (List.mem_range.1 hi)]; rfl
def clashP (l : List It) (k : Int) (b : Str) : Bool := placed l (objId k b) && !(decide (l[place l (objId k b)]!.kind = k) && decide (l[place l (objId k b)]!.body = b))
def putE (l : List It) (k : Int) (b : Str) : Int := if wholeE k b ≠ 0 then wholeE k b else if clashP l k b = true then 170 else if (!placed l (objId k b) && decide ((65536 : Int) ≤ l.length)) = true then 4 else 0
def putL (l : List It) (k : Int) (b : Str) : List It := if putE l k b ≠ 0 then [] else if placed l (objId k b) = true then l else l.take (place l (objId k b)) ++ (⟨objId k b, k, b⟩ :: l.drop (place l (objId k b)))
def putI (l : List It) (k : Int) (b : Str) : Str := if putE l k b ≠ 0 then [] else objId k b
theorem place_le (l : List It) (x : Str) : place l x ≤ l.length := by
  rw [place, halve_eq]; exact (hvAt_le _ _ 0 l.length rfl (Nat.zero_le _)).2
theorem placed_lt {l : List It} {x : Str} (h : placed l x = true) : place l x < l.length ∧ l[place l x]!.id = x := by
  simp only [placed, Bool.and_eq_true, decide_eq_true_eq] at h
  exact ⟨by omega, h.2⟩
end Go.Graft
