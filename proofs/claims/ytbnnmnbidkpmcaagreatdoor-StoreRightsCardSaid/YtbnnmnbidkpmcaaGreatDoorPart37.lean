/- A part of the proof: Hk, Hm, Hq, Hp. -/
import Derived.Test.YtbnnmnbidkpmcaaGreatDoorPart36
import Derived.Test.YtbnnmnbidkpmcaaGreatDoorPart35
set_option linter.unusedVariables false
set_option linter.unusedSimpArgs false
namespace Go.Proofs.Tryz
open Go Go.Sym Go.Graft
set_option maxRecDepth 20000
theorem sContainsAny (s : Str) (hs : s.length < 4294967281) : Ctr prog 185 [sV s, sV [60, 62]] [] (bV (angled s)) [] [] :=
  Ctr.of_calls (xs := [.string ⟨⟨s⟩⟩, .string ⟨⟨[60, 62]⟩⟩]) ⟨_, func185, rfl, rfl⟩ rfl (fun _ _ _ => .v _ _) fun w _ => by
    rw [← angled_any]
    exact Proofs.containsAngle Tryz.lays150 (by kernel_rfl) ⟨⟨s⟩⟩ w hs
theorem cut_len (s t : Str) : (Lib.cut s t).1.length ≤ s.length ∧ (Lib.cut s t).2.1.length ≤ s.length := by
  rw [Lib.cut]
  split
  · simp only [List.length_take, List.length_drop]; omega
  · simp
theorem cParseWho (s : Str) (hs : s.length ≤ 1000000000) : Ctr prog 150 [sV s] [] (.tup [(whoOf s).2.pv, iV (whoOf s).1]) [] [] := by
  have c1 := sCut s [32, 60] (by omega)
  have l1 := cut_len s [32, 60]
  have hw := whoOf_def s
  generalize whoOf s = w at *
  generalize Lib.cut s [32, 60] = q1 at *
  obtain ⟨name, r1, a⟩ := q1
  dsimp only at *
  have c2 := sCut r1 [62, 32] (by omega)
  have l2 := cut_len r1 [62, 32]
  generalize Lib.cut r1 [62, 32] = q2 at *
  obtain ⟨mail, r2, b⟩ := q2
  dsimp only at *
  have c3 := sCut r2 [32] (by omega)
  have l3 := cut_len r2 [32]
  generalize Lib.cut r2 [32] = q3 at *
  obtain ⟨tm, zn, c⟩ := q3
  dsimp only at *
  have c4 := cDigits tm (by omega)
  have c5 := cZone zn (by omega)
  have c6 := sContainsAny (name ++ mail) (by rw [List.length_append]; omega)
  have hv : numOk tm = true → (if numOk tm = true then ((valD tm : Nat) : Int) else 0) = ((valD tm : Nat) : Int) := fun h => if_pos h
  generalize (if numOk tm = true then ((valD tm : Nat) : Int) else 0) = v at *
  generalize numOk tm = d at *
  generalize hvv : ((valD tm : Nat) : Int) = v2 at *
  generalize zonOk zn = e at *
  generalize zonV zn = z at *
  generalize angled (name ++ mail) = g at *
  refine Ctr.enter tblOk func150 rfl (by decide) rfl (nt := 80) rfl rfl rfl rfl ?_
  refine Trip.seq ?_
  apply Trip.reg tblOk
  · repeat' (first | exact rfl | constructor)
  · exact rfl
  refine Trip.seq ?_
  apply Trip.reg tblOk
  · repeat' (first | exact rfl | (apply Rule.sem; intro hγ; with_reducible apply F_call0 (x := .func 110) (B := []) hγ (hspec := c1)) | ((with_reducible refine Side.mk ?_); exact .inl rfl) | constructor)
  · exact rfl
  refine Trip.seq ?_
  apply Trip.reg tblOk
  · repeat' (first | exact rfl | (apply Rule.sem; intro hγ; with_reducible apply F_call0 (x := .func 110) (B := []) hγ (hspec := c2)) | ((with_reducible refine Side.mk ?_); exact .inl rfl) | constructor)
  · exact rfl
  refine Trip.seq ?_
  apply Trip.reg tblOk
  · repeat' (first | exact rfl | (apply Rule.sem; intro hγ; with_reducible apply F_call0 (x := .func 110) (B := []) hγ (hspec := c3)) | ((with_reducible refine Side.mk ?_); exact .inl rfl) | constructor)
  · exact rfl
  refine Trip.seq ?_
  apply Trip.reg tblOk
  · repeat' (first | exact rfl | (apply Rule.sem; intro hγ; with_reducible apply F_call0 (x := .func 183) (B := []) hγ (hspec := c4)) | ((with_reducible refine Side.mk ?_); exact .inl rfl) | constructor)
  · exact rfl
  refine Trip.seq ?_
  apply Trip.reg tblOk
  · repeat' (first | exact rfl | (apply Rule.sem; intro hγ; with_reducible apply F_call0 (x := .func 184) (B := []) hγ (hspec := c5)) | ((with_reducible refine Side.mk ?_); exact .inl rfl) | constructor)
  · exact rfl
  refine Trip.seq ?_
  refine Trip.seq ?_
  apply Trip.reg tblOk
  · repeat' (first | exact rfl | (apply Rule.sem; intro hγ; with_reducible apply F_call0 (x := .func 185) (B := []) hγ (hspec := c6)) | ((with_reducible refine Side.mk ?_); first | omega | exact .inl rfl | exact fun h => h | exact fun _ h => congrArg Bool.not h) | constructor)
  · exact rfl
  apply Trip.cond (.tmp rfl)
  · intro h
    have h : (!a || !b || !c || !d || !e || g) = true := h
    have h : (a && b && c && d && e && !g) = false := by revert h; cases a <;> cases b <;> cases c <;> cases d <;> cases e <;> cases g <;> simp
    rw [if_pos h] at hw
    subst hw
    refine Trip.seq ?_
    apply Trip.reg tblOk
    · repeat' (first | exact rfl | constructor)
    · exact rfl
    refine Trip.ret ?_
    apply Ret2 []
    · repeat' (first | exact rfl | constructor)
    · exact rfl
    · repeat' constructor
    · repeat' constructor
  intro h
  have h : (!a || !b || !c || !d || !e || g) = false := h
  have hd : d = true := by revert h; cases a <;> cases b <;> cases c <;> cases d <;> cases e <;> cases g <;> simp
  have h : ¬ (a && b && c && d && e && !g) = false := by revert h; cases a <;> cases b <;> cases c <;> cases d <;> cases e <;> cases g <;> simp
  rw [if_neg h] at hw
  have hv := hv hd
  subst hv
  have c7 := cSomebody name mail v z (by omega) (by omega)
  generalize hpo : perOk name mail v z = po at *
  refine Trip.skip ?_
  refine Trip.seq ?_
  apply Trip.reg tblOk
  · repeat' (first | exact rfl | constructor)
  · exact rfl
  refine Trip.seq ?_
  refine Trip.seq ?_
  apply Trip.reg tblOk
  · repeat' (first | exact rfl | (apply Rule.sem; intro hγ; with_reducible apply F_call0 (x := .func 152) (B := []) hγ (hspec := c7)) | ((with_reducible refine Side.mk ?_); exact .inl rfl) | constructor)
  · exact rfl
  apply Trip.cond (.tmp rfl)
  · intro h2
    have h2 : po = false := by simpa using h2
    rw [if_pos h2] at hw
    subst hw
    refine Trip.seq ?_
    apply Trip.reg tblOk
    · repeat' (first | exact rfl | constructor)
    · exact rfl
    refine Trip.ret ?_
    apply Ret2 []
    · repeat' (first | exact rfl | constructor)
    · exact rfl
    · repeat' constructor
    · repeat' constructor
  intro h2
  have h2 : po = true := by simpa using h2
  rw [if_neg (by rw [h2]; simp)] at hw
  subst hw
  refine Trip.skip ?_
  refine Trip.seq ?_
  apply Trip.reg tblOk
  · repeat' (first | exact rfl | constructor)
  · exact rfl
  refine Trip.ret ?_
  apply Ret2 []
  · repeat' (first | exact rfl | constructor)
  · exact rfl
  · repeat' constructor
  · repeat' constructor
end Go.Proofs.Tryz
namespace Go.Proofs.Tryz
open Go Go.Sym Go.Graft
set_option maxRecDepth 20000
theorem cFail (s : Str) (e x : Int) : Ctr prog 117 [.ref PN 0, iV x] [.box [sV s, iV e]] (.tup []) [.box [sV s, iV (failE e x)]] [] := by
  refine Ctr.enter tblOk func117 rfl (by decide) rfl (nt := 17) rfl rfl rfl rfl ?_
  refine Trip.seq ?_
  apply Trip.reg tblOk
  · repeat' (first | exact rfl | (apply Rule.sem; intro hγ; with_reducible apply F_nilCheck hγ) | ((with_reducible refine Side.mk ?_); first | exact fun h => h | exact fun _ h => congrArg Bool.not h) | constructor)
  · exact rfl
  apply Trip.cond (.tmp rfl)
  · intro h
    have h : e = 0 ∨ x = 2 := by simpa using h
    rw [failE, if_pos h]
    apply Trip.reg tblOk
    · repeat' (first | exact rfl | (apply Rule.sem; intro hγ; with_reducible apply F_nilCheck hγ) | constructor)
    · exact rfl
    apply Ret0
    · repeat' constructor
    · repeat' (first | exact rfl | constructor)
    · repeat' (first | exact convL_plain rfl | constructor)
  intro h
  have h : ¬ (e = 0 ∨ x = 2) := by simpa using h
  rw [failE, if_neg h]
  refine Trip.skip ?_
  apply Ret0
  · repeat' constructor
  · repeat' (first | exact rfl | constructor)
  · repeat' (first | exact convL_plain rfl | constructor)
theorem cLine (s w : Str) (e : Int) (hs : s.length ≤ 1000000000) : Ctr prog 116 [.ref PN 0, sV w] [.box [sV s, iV e]] (sV (lineV s w)) [.box [sV (lineR s w), iV (lnE s w e)]] [] := by
  have c1 := sCut s [10] (by omega)
  have c2 := sCutPrefix (Lib.cut s [10]).1 w
  have c3 := cFail s e 2
  have hok : lineOk s w = ((Lib.cut s [10]).2.2 && Lib.hasPrefix (Lib.cut s [10]).1 w) := rfl
  rw [lineV, lineR, lnE]
  generalize lineOk s w = ok at *
  generalize Lib.cut s [10] = q at *
  obtain ⟨l, rest, is⟩ := q
  dsimp only at *
  generalize Lib.hasPrefix l w = has at *
  generalize Lib.trimPrefix l w = v at *
  generalize failE e 2 = e2 at *
  refine Ctr.enter tblOk func116 rfl (by decide) rfl (nt := 38) rfl rfl rfl rfl ?_
  refine Trip.seq ?_
  apply Trip.reg tblOk
  · repeat' constructor
  · exact rfl
  refine Trip.seq ?_
  apply Trip.reg tblOk
  · repeat' (first | exact rfl | (apply Rule.sem; intro hγ; with_reducible apply F_nilCheck hγ) | (apply Rule.sem; intro hγ; with_reducible apply F_call0 (x := .func 110) (B := []) hγ (hspec := c1)) | ((with_reducible refine Side.mk ?_); exact .inl rfl) | constructor)
  · exact rfl
  refine Trip.seq ?_
  apply Trip.reg tblOk
  · repeat' (first | exact rfl | (apply Rule.sem; intro hγ; with_reducible apply F_call0 (x := .func 143) (B := []) hγ (hspec := c2)) | ((with_reducible refine Side.mk ?_); exact .inl rfl) | constructor)
  · exact rfl
  refine Trip.seq ?_
  refine Trip.seq ?_
  apply Trip.reg tblOk
  · repeat' (first | exact rfl | ((with_reducible refine Side.mk ?_); first | exact fun h => h | exact fun _ h => congrArg Bool.not h) | constructor)
  · exact rfl
  apply Trip.cond (.tmp rfl)
  · intro h
    have h : (!is || !has) = true := h
    have h : ok = false := by rw [hok]; revert h; cases is <;> cases has <;> simp
    subst h
    rw [if_neg (by simp), if_neg (by simp), if_neg (by simp)]
    refine Trip.seq ?_
    apply Trip.reg tblOk
    · repeat' (first | exact rfl | (apply Rule.sem; intro hγ; with_reducible apply F_call (x := .func 117) (σ := [PN]) (B := []) (news := []) hγ (hspec := c3)) | ((with_reducible refine Side.mk ?_); exact .inl rfl) | constructor)
    · exact rfl
    refine Trip.seq ?_
    apply Trip.reg tblOk
    · repeat' constructor
    · exact rfl
    refine Trip.ret ?_
    apply Ret1o
    · repeat' (first | exact rfl | constructor)
    · repeat' (first | exact rfl | constructor)
    · repeat' (first | exact convL_plain rfl | constructor)
    · repeat' constructor
  intro h
  have h : (!is || !has) = false := h
  have h : ok = true := by rw [hok]; revert h; cases is <;> cases has <;> simp
  subst h
  rw [if_pos rfl, if_pos rfl, if_pos rfl]
  refine Trip.skip ?_
  refine Trip.seq ?_
  apply Trip.reg tblOk
  · repeat' (first | exact rfl | (apply Rule.sem; intro hγ; with_reducible apply F_nilCheck hγ) | constructor)
  · exact rfl
  refine Trip.seq ?_
  apply Trip.reg tblOk
  · repeat' (first | exact rfl | constructor)
  · exact rfl
  refine Trip.ret ?_
  apply Ret1o
  · repeat' (first | exact rfl | constructor)
  · repeat' (first | exact rfl | constructor)
  · repeat' (first | exact convL_plain rfl | constructor)
  · repeat' constructor
theorem cIdR (s w : Str) (e : Int) (hs : s.length ≤ 1000000000) : Ctr prog 113 [.ref PN 0, sV w] [.box [sV s, iV e]] (sV (lineV s w)) [.box [sV (lineR s w), iV (rdId s e w)]] [] := by
  have c1 := cLine s w e hs
  have c2 := cIs (lineV s w) (by have := lineV_le s w; omega)
  have c3 := cFail (lineR s w) (lnE s w e) 2
  rw [rdId, idE]
  generalize lineV s w = v at *
  generalize lineR s w = r at *
  generalize lnE s w e = e1 at *
  generalize failE e1 2 = e2 at *
  generalize isId v = b at *
  refine Ctr.enter tblOk func113 rfl (by decide) rfl (nt := 15) rfl rfl rfl rfl ?_
  refine Trip.seq ?_
  apply Trip.reg tblOk
  · repeat' constructor
  · exact rfl
  refine Trip.seq ?_
  apply Trip.reg tblOk
  · repeat' (first | exact rfl | (apply Rule.sem; intro hγ; with_reducible apply F_call (x := .func 116) (σ := [PN]) (B := []) (news := []) hγ (hspec := c1)) | ((with_reducible refine Side.mk ?_); exact .inl rfl) | constructor)
  · exact rfl
  refine Trip.seq ?_
  refine Trip.seq ?_
  apply Trip.reg tblOk
  · repeat' (first | exact rfl | (apply Rule.sem; intro hγ; with_reducible apply F_call0 (x := .func 148) (B := []) hγ (hspec := c2)) | ((with_reducible refine Side.mk ?_); exact .inl rfl) | constructor)
  · exact rfl
  apply Trip.cond (.tmp rfl)
  · intro h
    have h : b = false := by simpa using h
    subst h
    rw [if_neg (by simp)]
    apply Trip.reg tblOk
    · repeat' (first | exact rfl | (apply Rule.sem; intro hγ; with_reducible apply F_call (x := .func 117) (σ := [PN]) (B := []) (news := []) hγ (hspec := c3)) | ((with_reducible refine Side.mk ?_); exact .inl rfl) | constructor)
    · exact rfl
    refine Trip.seq ?_
    apply Trip.reg tblOk
    · repeat' (first | exact rfl | constructor)
    · exact rfl
    refine Trip.ret ?_
    apply Ret1o
    · repeat' (first | exact rfl | constructor)
    · repeat' (first | exact rfl | constructor)
    · repeat' (first | exact convL_plain rfl | constructor)
    · repeat' constructor
  · intro h
    have h : b = true := by simpa using h
    subst h
    rw [if_pos rfl]
    refine Trip.skip ?_
    refine Trip.seq ?_
    apply Trip.reg tblOk
    · repeat' (first | exact rfl | constructor)
    · exact rfl
    refine Trip.ret ?_
    apply Ret1o
    · repeat' (first | exact rfl | constructor)
    · repeat' (first | exact rfl | constructor)
    · repeat' (first | exact convL_plain rfl | constructor)
    · repeat' constructor
theorem cWhoR (s w : Str) (e : Int) (hs : s.length ≤ 1000000000) : Ctr prog 115 [.ref PN 0, sV w] [.box [sV s, iV e]] (whoOf (lineV s w)).2.pv [.box [sV (lineR s w), iV (rdWho s e w)]] [] := by
  have c1 := cLine s w e hs
  have c2 := cParseWho (lineV s w) (by have := lineV_le s w; omega)
  have c3 := cFail (lineR s w) (lnE s w e) (whoOf (lineV s w)).1
  rw [rdWho]
  generalize whoOf (lineV s w) = q at *
  obtain ⟨er, p⟩ := q
  dsimp only at *
  generalize lineV s w = v at *
  generalize lineR s w = r at *
  generalize lnE s w e = e1 at *
  generalize failE e1 er = e2 at *
  refine Ctr.enter tblOk func115 rfl (by decide) rfl (nt := 20) rfl rfl rfl rfl ?_
  refine Trip.seq ?_
  apply Trip.reg tblOk
  · repeat' (first | exact rfl | constructor)
  · exact rfl
  refine Trip.seq ?_
  apply Trip.reg tblOk
  · repeat' (first | exact rfl | (apply Rule.sem; intro hγ; with_reducible apply F_call (x := .func 116) (σ := [PN]) (B := []) (news := []) hγ (hspec := c1)) | (apply Rule.sem; intro hγ; with_reducible apply F_call0 (x := .func 150) (B := []) hγ (hspec := c2)) | ((with_reducible refine Side.mk ?_); exact .inl rfl) | constructor)
  · exact rfl
  refine Trip.seq ?_
  refine Trip.seq ?_
  apply Trip.reg tblOk
  · repeat' (first | exact rfl | constructor)
  · exact rfl
  apply Trip.cond (.tmp rfl)
  · intro h
    have h : er ≠ 0 := by simpa using h
    rw [if_neg h]
    apply Trip.reg tblOk
    · repeat' (first | exact rfl | (apply Rule.sem; intro hγ; with_reducible apply F_call (x := .func 117) (σ := [PN]) (B := []) (news := []) hγ (hspec := c3)) | ((with_reducible refine Side.mk ?_); exact .inl rfl) | constructor)
    · exact rfl
    refine Trip.seq ?_
    apply Trip.reg tblOk
    · repeat' (first | exact rfl | constructor)
    · exact rfl
    refine Trip.ret ?_
    apply Ret1o
    · repeat' (first | exact rfl | constructor)
    · repeat' (first | exact rfl | constructor)
    · repeat' (first | exact convL_plain rfl | constructor)
    · repeat' (first | exact convL_plain rfl | constructor)
  · intro h
    have h : er = 0 := by simpa using h
    rw [if_pos h]
    refine Trip.skip ?_
    refine Trip.seq ?_
    apply Trip.reg tblOk
    · repeat' (first | exact rfl | constructor)
    · exact rfl
    refine Trip.ret ?_
    apply Ret1o
    · repeat' (first | exact rfl | constructor)
    · repeat' (first | exact rfl | constructor)
    · repeat' (first | exact convL_plain rfl | constructor)
    · repeat' (first | exact convL_plain rfl | constructor)
end Go.Proofs.Tryz
namespace Go.Proofs.Tryz
open Go Go.Sym Go.Graft
set_option maxRecDepth 20000
theorem cKind (w : Str) : Ctr prog 119 [sV w] [] (iV (kindW w)) [] [] := by
  refine Ctr.enter tblOk func119 rfl (by decide) rfl (nt := 16) rfl rfl rfl rfl ?_
  refine Trip.seq ?_
  apply Trip.reg tblOk
  · repeat' constructor
  · exact rfl
  refine Trip.seq ?_
  refine Trip.seq ?_
  apply Trip.reg tblOk
  · repeat' (first | exact rfl | (apply Rule.sem; intro hγ; with_reducible apply F_call0 (x := .func 141) (B := []) hγ (hspec := cKinds)) | ((with_reducible refine Side.mk ?_); exact .inl rfl) | constructor)
  · exact rfl
  refine Trip.block ?_
  apply Trip.loop (fun (i : Nat) => ⟨[(0, sV w), (5, .agg kindsPV), (6, iV i)], []⟩) (fun (i : Nat) => i ≤ 4 ∧ ∀ j : Nat, 1 ≤ j → j < i + 1 → wordK (j : Int) ≠ w) (fun (i : Nat) => 4 - i) (0)
  · exact ⟨by omega, fun j h1 h2 => absurd h1 (by omega)⟩
  · apply Weak.keep
    · exact rfl
    · repeat' (first | exact rfl | constructor)
    · repeat' constructor
    · exact rfl
    · repeat' constructor
  intro i hi
  obtain ⟨hi, hj⟩ := hi
  refine Trip.seq ?_
  apply Trip.reg tblOk
  · repeat' (first | exact rfl | constructor)
  · exact rfl
  refine Trip.seq ?_
  apply Trip.cond (.tmp rfl)
  · intro h
    have h : i < 4 := by simp at h; omega
    have hpart := kinds_part i h
    obtain ⟨hkw, _⟩ := kindW_wordK (i + 1) (by omega) (by omega)
    have ec : (((i + 1 : Nat)) : Int) = (i : Int) + 1 := by omega
    rw [ec] at hkw
    have hw3 : wordK (((i + 1 : Nat)) : Int) = wordK ((i : Int) + 1) := by rw [ec]
    generalize hw2 : wordK ((i : Int) + 1) = w2 at *
    refine Trip.skip ?_
    refine Trip.seq ?_
    refine Trip.block ?_
    refine Trip.seq ?_
    apply Trip.reg tblOk
    · repeat' (first | exact rfl | (apply Rule.sem; intro hγ; with_reducible apply F_indexArr tblOk hγ) | exact hpart | ((with_reducible refine Side.mk ?_); omega) | constructor)
    · exact rfl
    refine Trip.seq ?_
    apply Trip.reg tblOk
    · repeat' (first | exact rfl | constructor)
    · exact rfl
    apply Trip.cond (.tmp rfl)
    · intro h2
      have h2 : w2 = w := by simpa using h2
      rw [← h2, hkw]
      refine Trip.seq ?_
      apply Trip.reg tblOk
      · repeat' (first | exact rfl | constructor)
      · exact rfl
      refine Trip.ret ?_
      apply Ret1 []
      · repeat' (first | exact rfl | constructor)
      · exact rfl
      · repeat' constructor
    intro h2
    have h2 : ¬ w2 = w := by simpa using h2
    refine Trip.skip ?_
    apply Trip.reg tblOk
    · repeat' (first | exact rfl | ((with_reducible refine Side.mk ?_); omega) | constructor)
    · exact rfl
    refine ⟨i + 1, ?_, ?_, ?_⟩
    · exact ⟨by omega, fun j h4 h3 => (Nat.lt_succ_iff_lt_or_eq.1 h3).elim (hj j h4) (fun e => by rw [e, hw3]; exact h2)⟩
    · first | omega | (dsimp only at *; omega)
    · apply Weak.keep
      · exact rfl
      · repeat' (first | exact rfl | constructor)
      · repeat' constructor
      · exact rfl
      · repeat' constructor
  intro h
  have h : i = 4 := by simp at h; omega
  subst h
  refine Trip.exit ?_
  rw [kindW_none w hj]
  refine Trip.seq ?_
  apply Trip.reg tblOk
  · repeat' constructor
  · exact rfl
  refine Trip.ret ?_
  apply Ret1 []
  · repeat' (first | exact rfl | constructor)
  · exact rfl
  · repeat' constructor
end Go.Proofs.Tryz
namespace Go.Proofs.Tryz
open Go Go.Sym Go.Graft
set_option maxRecDepth 20000
theorem whoOf_len (x : Str) : (whoOf x).2.name.length ≤ x.length ∧ (whoOf x).2.mail.length ≤ x.length := by
  have h1 := cut_len x [32, 60]
  have h2 := cut_len (Lib.cut x [32, 60]).2.1 [62, 32]
  rw [whoOf]
  split
  · simp [zeroPer]
  split
  · simp [zeroPer]
  · exact ⟨h1.1, by simp only; omega⟩
set_option maxHeartbeats 1000000 in
theorem cParseC (s : Str) (hs : s.length ≤ 100000000) : Ctr prog 71 [sV s] [] (.tup [(comP s).2.pv (comP s).2.pars.isEmpty, iV (comP s).1]) [] [] := by
  have c1 := cIdR s kTree 0 (by omega)
  have hR := lineR_le s kTree
  have hV := lineV_le s kTree
  have hdef := comP_def s
  generalize comP s = res at *
  generalize lineV s kTree = tr at *
  generalize lineR s kTree = s1 at *
  generalize rdId s 0 kTree = e1 at *
  refine Ctr.enter tblOk func71 rfl (by decide) rfl (nt := 68) rfl rfl rfl rfl ?_
  refine Trip.seq ?_
  apply Trip.reg tblOk
  · repeat' (first | exact rfl | constructor)
  · exact rfl
  refine Trip.seq ?_
  apply Trip.reg tblOk
  · repeat' (first | exact rfl | constructor)
  · exact rfl
  refine Trip.seq ?_
  apply Trip.reg tblOk
  · repeat' (first | exact rfl | (apply Rule.sem; intro hγ; with_reducible apply F_call (x := .func 113) (σ := [8]) (B := []) (news := []) hγ (hspec := c1)) | ((with_reducible refine Side.mk ?_); exact .inl rfl) | constructor)
  · exact rfl
  refine Trip.seq ?_
  refine Trip.block ?_
  apply Trip.loop (fun (x : Str × Int × List Str) => ⟨[(2, .ref 2 0), (4, .ref 8 0), (5, .ref 5 0)], [(900, .arr 1 x.2.2.isEmpty (x.2.2.map fun p => sV p)), (2, .box [sV [], nilS, sV [], sV [], iV 0, iV 0, sV [], sV [], iV 0, iV 0, sV []]), (5, .box [sV tr, .osl 900 0 x.2.2.length x.2.2.length, sV [], sV [], iV 0, iV 0, sV [], sV [], iV 0, iV 0, sV []]), (8, .box [sV x.1, iV x.2.1])]⟩) (fun (x : Str × Int × List Str) => Pars s1 e1 x) (fun (x : Str × Int × List Str) => parsM x) ((s1, e1, []))
  · exact pars_zero s1 e1
  · refine Weak.trans (S2 := ⟨[(2, .ref 2 0), (4, .ref 8 0), (5, .ref 5 0)], [(2, .box [sV [], nilS, sV [], sV [], iV 0, iV 0, sV [], sV [], iV 0, iV 0, sV []]), (5, .box [sV tr, nilS, sV [], sV [], iV 0, iV 0, sV [], sV [], iV 0, iV 0, sV []]), (8, .box [sV s1, iV e1])]⟩) ?_ ?_
    · apply Weak.keep
      · exact rfl
      · repeat' (first | exact rfl | constructor)
      · repeat' (first | exact rfl | constructor)
      · exact rfl
      · repeat' (first | exact rfl | constructor)
    · exact Weak.adopt 900 1 rfl rfl (by repeat' (first | exact rfl | constructor)) (by repeat' (first | exact rfl | constructor))
  intro x hx
  obtain ⟨t, e, l⟩ := x
  have hx2 := hx
  obtain ⟨_, hl1, hl2, hl3⟩ := hx2
  dsimp only at *
  have c2 := sHasPrefix t kPar
  have c3 := cIdR t kPar e (by omega)
  refine Trip.seq ?_
  refine Trip.seq ?_
  apply Trip.reg tblOk
  · repeat' (first | exact rfl | (apply Rule.sem; intro hγ; with_reducible apply F_nilCheck hγ) | (apply Rule.sem; intro hγ; with_reducible apply F_call0 (x := .func 114) (B := []) hγ (hspec := c2)) | ((with_reducible refine Side.mk ?_); first | exact .inl rfl | exact fun h => h | exact fun _ h => h) | constructor)
  · exact rfl
  apply Trip.cond (.tmp rfl)
  · intro h
    have h : (decide (e = 0) && Lib.hasPrefix t kPar) = true := h
    simp only [Bool.and_eq_true, decide_eq_true_eq] at h
    obtain ⟨he, hp⟩ := h
    subst he
    obtain ⟨hn, hm⟩ := pars_next hx hp
    have hll : l.length ≤ 1000000000 := by simp only [if_true] at hl1; omega
    generalize lineV t kPar = v at *
    generalize lineR t kPar = t2 at *
    generalize rdId t 0 kPar = e2 at *
    refine Trip.skip ?_
    refine Trip.block ?_
    apply Trip.drw tblOk mixed
    · repeat' (first | exact rfl | (apply Rule.sem; intro hγ; with_reducible apply F_call (x := .func 113) (σ := [8]) (B := []) (news := []) hγ (hspec := c3)) | ((with_reducible refine Side.mk ?_); first | exact .inl rfl | (simp only [ln]; first | done | omega)) | constructor)
    · exact rfl
    · kernel_rfl
    refine ⟨(t2, e2, l ++ [v]), ?_, ?_, ?_⟩
    · exact hn
    · first | omega | (dsimp only at *; omega)
    · apply Weak.keep
      · exact rfl
      · repeat' (first | exact rfl | constructor)
      · repeat' (first | exact rfl | exact arrF (by simp) (by simp) | (refine Side.mk ?_; simp; done) | constructor)
      · exact rfl
      · repeat' (first | exact rfl | exact plainL_map _ (fun _ => rfl) _ | constructor)
  intro h
  have h : (decide (e = 0) && Lib.hasPrefix t kPar) = false := h
  have hq := pars_end hx (fun h2 => by rw [decide_eq_true h2.1, h2.2] at h; simp at h)
  have hdef := hdef t e l hq
  have d1 := lineR_le t kAut
  have d2 := lineV_le t kAut
  have c4 := cWhoR t kAut e (by omega)
  have w1 := whoOf_len (lineV t kAut)
  generalize lineV t kAut = x at *
  generalize lineR t kAut = s3 at *
  generalize rdWho t e kAut = e3 at *
  have d3 := lineR_le s3 kCom
  have d4 := lineV_le s3 kCom
  have c5 := cWhoR s3 kCom e3 (by omega)
  have w2 := whoOf_len (lineV s3 kCom)
  generalize lineV s3 kCom = y at *
  generalize lineR s3 kCom = s4 at *
  generalize rdWho s3 e3 kCom = e4 at *
  have d5 := lineR_le s4 []
  have c6 := cLine s4 [] e4 (by omega)
  have c7 := cFail (lineR s4 []) (lnE s4 [] e4) 2
  generalize lineV s4 [] = v5 at *
  generalize lineR s4 [] = s5 at *
  generalize lnE s4 [] e4 = e5 at *
  generalize failE e5 2 = e5f at *
  generalize (whoOf x).2 = px at *
  generalize (whoOf y).2 = py at *
  refine Trip.exit ?_
  refine Trip.seq ?_
  apply Trip.reg tblOk
  · repeat' (first | exact rfl | (apply Rule.sem; intro hγ; with_reducible apply F_call (dst := some 32) (x := .func 115) (σ := [8]) (B := []) (news := []) hγ (hspec := c4)) | (apply Rule.sem; intro hγ; with_reducible apply F_call (dst := some 34) (x := .func 115) (σ := [8]) (B := []) (news := []) hγ (hspec := c5)) | ((with_reducible refine Side.mk ?_); exact .inl rfl) | constructor)
  · exact rfl
  have hpl : l.length ≤ 1000000000 := by split at hl1 <;> omega
  have c8 := cComE l.isEmpty ⟨tr, l, px, py, s5⟩ (by simp only; omega) (by simp only; omega) (fun p hp => by have := hl3 p hp; omega) (by simp only; omega) (by simp only; omega) (by simp only; omega)
  generalize hce : comE ⟨tr, l, px, py, s5⟩ = ce at *
  generalize he6 : (if v5 = [] then e5 else e5f) = e6 at *
  refine Trip.seqk ⟨[(2, .ref 2 0), (4, .ref 8 0), (5, .ref 5 0)], [(900, .arr 1 l.isEmpty (l.map fun p => sV p)), (2, .box [sV [], nilS, sV [], sV [], iV 0, iV 0, sV [], sV [], iV 0, iV 0, sV []]), (5, .box [sV tr, .osl 900 0 l.length l.length, sV px.name, sV px.mail, iV px.time, iV px.zone, sV py.name, sV py.mail, iV py.time, iV py.zone, sV []]), (8, .box [sV s5, iV e6])]⟩ ?_ ?_
  · refine Trip.seq ?_
    apply Trip.reg tblOk
    · repeat' (first | exact rfl | (apply Rule.sem; intro hγ; with_reducible apply F_call (x := .func 116) (σ := [8]) (B := []) (news := []) hγ (hspec := c6)) | ((with_reducible refine Side.mk ?_); exact .inl rfl) | constructor)
    · exact rfl
    apply Trip.cond (.tmp rfl)
    · intro h
      have h : ¬ v5 = [] := by simpa using h
      rw [if_neg h] at he6
      subst he6
      apply Trip.reg tblOk
      · repeat' (first | exact rfl | (apply Rule.sem; intro hγ; with_reducible apply F_call (x := .func 117) (σ := [8]) (B := []) (news := []) hγ (hspec := c7)) | ((with_reducible refine Side.mk ?_); exact .inl rfl) | constructor)
      · exact rfl
      apply Weak.keep
      · exact rfl
      · repeat' (first | exact rfl | constructor)
      · repeat' (first | exact rfl | constructor)
      · exact rfl
      · repeat' (first | exact rfl | exact plainL_map _ (fun _ => rfl) _ | constructor)
    · intro h
      have h : v5 = [] := by simpa using h
      rw [if_pos h] at he6
      subst he6
      refine Trip.skip ?_
      apply Weak.keep
      · exact rfl
      · repeat' (first | exact rfl | constructor)
      · repeat' (first | exact rfl | constructor)
      · exact rfl
      · repeat' (first | exact rfl | exact plainL_map _ (fun _ => rfl) _ | constructor)
  refine Trip.seq ?_
  apply Trip.reg tblOk
  · repeat' (first | exact rfl | (apply Rule.sem; intro hγ; with_reducible apply F_nilCheck hγ) | constructor)
  · exact rfl
  generalize he7 : (if e6 = 0 then ce else e6) = e7 at *
  refine Trip.seqk ⟨[(2, .ref 2 0), (4, .ref 8 0), (5, .ref 5 0)], [(900, .arr 1 l.isEmpty (l.map fun p => sV p)), (2, .box [sV [], nilS, sV [], sV [], iV 0, iV 0, sV [], sV [], iV 0, iV 0, sV []]), (5, .box [sV tr, .osl 900 0 l.length l.length, sV px.name, sV px.mail, iV px.time, iV px.zone, sV py.name, sV py.mail, iV py.time, iV py.zone, sV s5]), (8, .box [sV s5, iV e7])]⟩ ?_ ?_
  · refine Trip.seq ?_
    apply Trip.reg tblOk
    · repeat' (first | exact rfl | (apply Rule.sem; intro hγ; with_reducible apply F_nilCheck hγ) | constructor)
    · exact rfl
    apply Trip.cond (.tmp rfl)
    · intro h
      have h : e6 = 0 := by simpa using h
      rw [if_pos h] at he7
      subst he7
      apply Trip.reg tblOk
      · repeat' (first | exact rfl | (apply Rule.sem; intro hγ; with_reducible apply F_nilCheck hγ) | (apply Rule.sem; intro hγ; with_reducible apply F_call0 (x := .func 118) (B := [900]) hγ (hspec := c8)) | exact plainL_map _ (fun _ => rfl) _ | ((with_reducible refine Side.mk ?_); first | exact .inr ⟨rfl, rfl, rfl⟩ | (simp only [ln]; first | done | omega)) | constructor)
      · exact rfl
      apply Weak.keep
      · exact rfl
      · repeat' (first | exact rfl | constructor)
      · repeat' (first | exact rfl | constructor)
      · exact rfl
      · repeat' (first | exact rfl | exact plainL_map _ (fun _ => rfl) _ | constructor)
    · intro h
      have h : ¬ e6 = 0 := by simpa using h
      rw [if_neg h] at he7
      subst he7
      refine Trip.skip ?_
      apply Weak.keep
      · exact rfl
      · repeat' (first | exact rfl | constructor)
      · repeat' (first | exact rfl | constructor)
      · exact rfl
      · repeat' (first | exact rfl | exact plainL_map _ (fun _ => rfl) _ | constructor)
  refine Trip.seq ?_
  refine Trip.seq ?_
  apply Trip.reg tblOk
  · repeat' (first | exact rfl | (apply Rule.sem; intro hγ; with_reducible apply F_nilCheck hγ) | constructor)
  · exact rfl
  apply Trip.cond (.tmp rfl)
  · intro h
    have h : ¬ e7 = 0 := by simpa using h
    rw [if_neg h] at hdef
    subst hdef
    refine Trip.seq ?_
    apply Trip.drw tblOk mixed
    · repeat' (first | exact rfl | (apply Rule.sem; intro hγ; with_reducible apply F_nilCheck hγ) | constructor)
    · exact rfl
    · kernel_rfl
    refine Trip.ret ?_
    apply Ret2 []
    · repeat' (first | exact rfl | constructor)
    · exact rfl
    · repeat' constructor
    · repeat' constructor
  intro h
  have h : e7 = 0 := by simpa using h
  rw [if_pos h] at hdef
  subst hdef
  refine Trip.skip ?_
  refine Trip.seq ?_
  apply Trip.reg tblOk
  · repeat' (first | exact rfl | constructor)
  · exact rfl
  refine Trip.ret ?_
  apply Ret2 [900]
  · repeat' (first | exact rfl | constructor)
  · exact rfl
  · repeat' (first | exact rfl | exact plainL_map _ (fun _ => rfl) _ | (refine Side.mk ?_; simp only [ln]; first | done | omega) | constructor)
  · repeat' constructor
end Go.Proofs.Tryz
