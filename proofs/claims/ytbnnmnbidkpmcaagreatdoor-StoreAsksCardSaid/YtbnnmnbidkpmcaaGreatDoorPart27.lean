/- A part of the proof: Gq, GNam, Gr, GPer, Gt, GMsc, Gu, GHlv. -/
import Derived.Test.YtbnnmnbidkpmcaaGreatDoorPart26
import Derived.Lib.Strings
set_option linter.unusedVariables false
set_option linter.unusedSimpArgs false
namespace Go.Proofs.Tryz
open Go Go.Sym Go.Graft
set_option maxRecDepth 20000
theorem cFind14 (s : Str) (c : UInt8) (a : Nat) (hs : s.length ≤ 1000000000000) (ha : a ≤ s.length) : Ctr prog 130 [sV s, u8V c, iV a] [] (iV (findB s c a)) [] [] := by
  refine Ctr.enter tblOk func130 rfl (by decide) rfl (nt := 21) rfl rfl rfl rfl ?_
  refine Trip.seq ?_
  apply Trip.reg tblOk
  · repeat' constructor
  · exact rfl
  refine Trip.seq ?_
  refine Trip.seq ?_
  apply Trip.reg tblOk
  · repeat' (first | exact rfl | constructor)
  · exact rfl
  refine Trip.block ?_
  apply Trip.loop (fun (i : Nat) => ⟨[(0, sV s), (1, u8V c), (7, iV i)], []⟩) (fun (i : Nat) => a ≤ i ∧ i ≤ s.length ∧ ∀ j, a ≤ j → j < i → s.getD j 0 ≠ c) (fun (i : Nat) => s.length - i) (a)
  · exact ⟨Nat.le_refl _, ha, fun j hj hj2 => absurd hj (by omega)⟩
  · apply Weak.keep
    · exact rfl
    · repeat' (first | exact rfl | constructor)
    · repeat' constructor
    · exact rfl
    · repeat' constructor
  intro i hi
  obtain ⟨hi0, hi, hj⟩ := hi
  refine Trip.seq ?_
  refine Trip.seq ?_
  apply Trip.reg tblOk
  · repeat' (first | exact rfl | constructor)
  · exact rfl
  apply Trip.cond (.tmp rfl)
  · intro h
    have h : i < s.length := by simp at h; omega
    refine Trip.skip ?_
    refine Trip.seq ?_
    refine Trip.block ?_
    refine Trip.seq ?_
    apply Trip.reg tblOk
    · repeat' (first | exact rfl | ((with_reducible refine Side.mk ?_); omega) | constructor)
    · exact rfl
    apply Trip.cond (.tmp rfl)
    · intro h2
      have h2 : s.getD i 0 = c := u8_eq (by simpa using h2)
      rw [findB_some hi0 h hj h2]
      refine Trip.seq ?_
      apply Trip.reg tblOk
      · repeat' (first | exact rfl | constructor)
      · exact rfl
      refine Trip.ret ?_
      apply Ret1 []
      · repeat' (first | exact rfl | constructor)
      · exact rfl
      · repeat' constructor
    intro h2
    have h2 : s.getD i 0 ≠ c := u8_ne (by simpa using h2)
    refine Trip.skip ?_
    apply Trip.reg tblOk
    · repeat' (first | exact rfl | ((with_reducible refine Side.mk ?_); omega) | constructor)
    · exact rfl
    refine ⟨i + 1, ?_, ?_, ?_⟩
    · exact ⟨by omega, by omega, fun j h4 h3 => (Nat.lt_succ_iff_lt_or_eq.1 h3).elim (hj j h4) (fun e => e ▸ h2)⟩
    · first | omega | (dsimp only at *; omega)
    · apply Weak.keep
      · exact rfl
      · repeat' (first | exact rfl | constructor)
      · repeat' constructor
      · exact rfl
      · repeat' constructor
  intro h
  have h : i = s.length := by simp at h; omega
  subst h
  refine Trip.exit ?_
  rw [findB_none hj]
  refine Trip.seq ?_
  apply Trip.reg tblOk
  · repeat' constructor
  · exact rfl
  refine Trip.ret ?_
  apply Ret1 []
  · repeat' (first | exact rfl | constructor)
  · exact rfl
  · repeat' constructor
end Go.Proofs.Tryz
namespace Go.Graft
def namBad (s : Str) : Bool := decide ((s.length : Int) < 1) || decide (64 < (s.length : Int)) || decide (((s.getD 0 0).toNat : Int) = 32) || decide (((s.getD ((s.length : Int) - 1).toNat 0).toNat : Int) = 32)
def namC (c : UInt8) : Bool := decide ((c.toNat : Int) < 32) || decide ((c.toNat : Int) = 60) || decide ((c.toNat : Int) = 62)
def namOk (s : Str) : Bool := !namBad s && s.all fun c => !namC c
theorem namOk_bad {s : Str} (h : namBad s = true) : namOk s = false := by rw [namOk, h]; rfl
theorem namOk_false {s : Str} {i : Nat} (h : i < s.length) (hp : namC (s.getD i 0) = true) : namOk s = false := by
  rw [namOk, all_false (p := fun c => !namC c) h (by rw [hp]; rfl), Bool.and_false]
theorem namOk_true {s : Str} (hb : namBad s = false) (h : ∀ i, i < s.length → namC (s.getD i 0) = false) : namOk s = true := by
  rw [namOk, hb, all_true (p := fun c => !namC c) fun i hi => by rw [h i hi]; rfl]; rfl
end Go.Graft
namespace Go.Proofs.Tryz
open Go Go.Sym Go.Graft
set_option maxRecDepth 20000
theorem cNamed2 (s : Str) (hs : s.length ≤ 1000000000000) : Ctr prog 140 [sV s] [] (bV (namOk s)) [] [] := by
  refine Ctr.enter tblOk func140 rfl (by decide) rfl (nt := 47) rfl rfl rfl rfl ?_
  refine Trip.seq ?_
  apply Trip.reg tblOk
  · repeat' constructor
  · exact rfl
  refine Trip.seq ?_
  refine Trip.seq ?_
  apply Trip.reg tblOk
  · repeat' (first | exact rfl | (apply Rule.under tblOk; intro hγ; with_reducible apply Rule.index) | ((with_reducible refine Side.mk ?_); first | omega | exact fun h => h | exact fun _ h => congrArg Bool.not h | exact fun _ => hγ | (have h2 := hγ; simp only [gpick, cond_true, cond_false, decide_eq_true_eq, Bool.and_eq_true, Bool.or_eq_true, Bool.not_eq_true', Bool.not_eq_false', Bool.or_eq_false_iff, decide_eq_false_iff_not, List.length_map] at h2; (try simp only [List.length_map]); omega)) | constructor)
  · exact rfl
  apply Trip.cond (.tmp rfl)
  · intro h
    have h : namBad s = true := h
    rw [namOk_bad h]
    refine Trip.seq ?_
    apply Trip.reg tblOk
    · repeat' constructor
    · exact rfl
    refine Trip.ret ?_
    apply Ret1 []
    · repeat' (first | exact rfl | constructor)
    · exact rfl
    · repeat' (exact cvB (by simp only [List.length_map]))
  intro h
  have hb : namBad s = false := h
  refine Trip.skip ?_
  refine Trip.seq ?_
  refine Trip.seq ?_
  apply Trip.reg tblOk
  · repeat' constructor
  · exact rfl
  refine Trip.block ?_
  apply Trip.loop (fun (i : Nat) => ⟨[(0, sV s), (3, iV i)], []⟩) (fun (i : Nat) => i ≤ s.length ∧ ∀ j, j < i → namC (s.getD j 0) = false) (fun (i : Nat) => s.length - i) (0)
  · exact ⟨Nat.zero_le _, fun j hj => absurd hj (by omega)⟩
  · apply Weak.keep
    · exact rfl
    · repeat' (first | exact rfl | constructor)
    · repeat' constructor
    · exact rfl
    · repeat' constructor
  intro i hi
  obtain ⟨hi, hj⟩ := hi
  refine Trip.seq ?_
  refine Trip.seq ?_
  apply Trip.reg tblOk
  · repeat' (first | exact rfl | constructor)
  · exact rfl
  apply Trip.cond (.tmp rfl)
  · intro h
    have h : i < s.length := by simp at h; omega
    refine Trip.skip ?_
    refine Trip.seq ?_
    refine Trip.block ?_
    refine Trip.seq ?_
    apply Trip.reg tblOk
    · repeat' (first | exact rfl | ((with_reducible refine Side.mk ?_); first | omega | exact fun h => h | exact fun _ h => congrArg Bool.not h) | constructor)
    · exact rfl
    apply Trip.cond (.tmp rfl)
    · intro h2
      have h2 : namC (s.getD i 0) = true := h2
      rw [namOk_false h h2]
      refine Trip.seq ?_
      apply Trip.reg tblOk
      · repeat' constructor
      · exact rfl
      refine Trip.ret ?_
      apply Ret1 []
      · repeat' (first | exact rfl | constructor)
      · exact rfl
      · repeat' (exact cvB (by simp only [List.length_map]))
    intro h2
    have h2 : namC (s.getD i 0) = false := h2
    refine Trip.skip ?_
    apply Trip.reg tblOk
    · repeat' (first | exact rfl | ((with_reducible refine Side.mk ?_); omega) | constructor)
    · exact rfl
    refine ⟨i + 1, ?_, ?_, ?_⟩
    · exact ⟨by omega, fun j h3 => (Nat.lt_succ_iff_lt_or_eq.1 h3).elim (hj j) (fun e => e ▸ h2)⟩
    · first | omega | (dsimp only at *; omega)
    · apply Weak.keep
      · exact rfl
      · repeat' (first | exact rfl | constructor)
      · repeat' constructor
      · exact rfl
      · repeat' constructor
  intro h
  have h : i = s.length := by simp at h; omega
  subst h
  refine Trip.exit ?_
  rw [namOk_true hb hj]
  refine Trip.seq ?_
  apply Trip.reg tblOk
  · repeat' constructor
  · exact rfl
  refine Trip.ret ?_
  apply Ret1 []
  · repeat' (first | exact rfl | constructor)
  · exact rfl
  · repeat' (exact cvB (by simp only [List.length_map]))
theorem cNamed (s : Str) (hs : s.length ≤ 1000000000000) : Ctr prog 186 [sV s] [] (bV (namOk s)) [] [] := by
  refine Ctr.enter tblOk func186 rfl (by decide) rfl (nt := 47) rfl rfl rfl rfl ?_
  refine Trip.seq ?_
  apply Trip.reg tblOk
  · repeat' constructor
  · exact rfl
  refine Trip.seq ?_
  refine Trip.seq ?_
  apply Trip.reg tblOk
  · repeat' (first | exact rfl | (apply Rule.under tblOk; intro hγ; with_reducible apply Rule.index) | ((with_reducible refine Side.mk ?_); first | omega | exact fun h => h | exact fun _ h => congrArg Bool.not h | exact fun _ => hγ | (have h2 := hγ; simp only [gpick, cond_true, cond_false, decide_eq_true_eq, Bool.and_eq_true, Bool.or_eq_true, Bool.not_eq_true', Bool.not_eq_false', Bool.or_eq_false_iff, decide_eq_false_iff_not, List.length_map] at h2; (try simp only [List.length_map]); omega)) | constructor)
  · exact rfl
  apply Trip.cond (.tmp rfl)
  · intro h
    have h : namBad s = true := h
    rw [namOk_bad h]
    refine Trip.seq ?_
    apply Trip.reg tblOk
    · repeat' constructor
    · exact rfl
    refine Trip.ret ?_
    apply Ret1 []
    · repeat' (first | exact rfl | constructor)
    · exact rfl
    · repeat' (exact cvB (by simp only [List.length_map]))
  intro h
  have hb : namBad s = false := h
  refine Trip.skip ?_
  refine Trip.seq ?_
  refine Trip.seq ?_
  apply Trip.reg tblOk
  · repeat' (first | exact rfl | constructor)
  · exact rfl
  refine Trip.block ?_
  apply Trip.loop (fun (i : Nat) => ⟨[(0, sV s), (26, iV s.length), (27, iV i)], []⟩) (fun (i : Nat) => i ≤ s.length ∧ ∀ j, j < i → namC (s.getD j 0) = false) (fun (i : Nat) => s.length - i) (0)
  · exact ⟨Nat.zero_le _, fun j hj => absurd hj (by omega)⟩
  · apply Weak.keep
    · exact rfl
    · repeat' (first | exact rfl | constructor)
    · repeat' constructor
    · exact rfl
    · repeat' constructor
  intro i hi
  obtain ⟨hi, hj⟩ := hi
  refine Trip.seq ?_
  apply Trip.reg tblOk
  · repeat' (first | exact rfl | constructor)
  · exact rfl
  refine Trip.seq ?_
  apply Trip.cond (.tmp rfl)
  · intro h
    have h : i < s.length := by simp at h; omega
    refine Trip.skip ?_
    refine Trip.seq ?_
    refine Trip.block ?_
    refine Trip.seq ?_
    apply Trip.reg tblOk
    · repeat' (first | exact rfl | constructor)
    · exact rfl
    refine Trip.seq ?_
    apply Trip.reg tblOk
    · repeat' (first | exact rfl | ((with_reducible refine Side.mk ?_); first | omega | exact fun h => h | exact fun _ h => congrArg Bool.not h) | constructor)
    · exact rfl
    apply Trip.cond (.tmp rfl)
    · intro h2
      have h2 : namC (s.getD i 0) = true := h2
      rw [namOk_false h h2]
      refine Trip.seq ?_
      apply Trip.reg tblOk
      · repeat' constructor
      · exact rfl
      refine Trip.ret ?_
      apply Ret1 []
      · repeat' (first | exact rfl | constructor)
      · exact rfl
      · repeat' (exact cvB (by simp only [List.length_map]))
    intro h2
    have h2 : namC (s.getD i 0) = false := h2
    refine Trip.skip ?_
    apply Trip.reg tblOk
    · repeat' (first | exact rfl | ((with_reducible refine Side.mk ?_); omega) | constructor)
    · exact rfl
    refine ⟨i + 1, ?_, ?_, ?_⟩
    · exact ⟨by omega, fun j h3 => (Nat.lt_succ_iff_lt_or_eq.1 h3).elim (hj j) (fun e => e ▸ h2)⟩
    · first | omega | (dsimp only at *; omega)
    · apply Weak.keep
      · exact rfl
      · repeat' (first | exact rfl | constructor)
      · repeat' constructor
      · exact rfl
      · repeat' constructor
  intro h
  have h : i = s.length := by simp at h; omega
  subst h
  refine Trip.exit ?_
  rw [namOk_true hb hj]
  refine Trip.seq ?_
  apply Trip.reg tblOk
  · repeat' constructor
  · exact rfl
  refine Trip.ret ?_
  apply Ret1 []
  · repeat' (first | exact rfl | constructor)
  · exact rfl
  · repeat' (exact cvB (by simp only [List.length_map]))
end Go.Proofs.Tryz
namespace Go.Graft
open Go.Sym
structure Per where
  name : Str
  mail : Str
  time : Int
  zone : Int
@[reducible] def perPV (n m : Str) (t z : Int) : PV := .agg [sV n, sV m, iV t, iV z]
def perOk (n m : Str) (t z : Int) : Bool := namOk n && namOk m && decide (0 ≤ t) && decide (t ≤ 1099511627776) && decide (-840 ≤ z) && decide (z ≤ 840)
@[reducible] def entPV (m : Int) (n i : Str) : PV := .agg [iV m, sV n, sV i]
def keyE (m : Int) (n : Str) : Str := if m = 4 then n ++ [47] else n
def modeD (m : Int) : Str := if m = 1 then [49, 48, 48, 54, 52, 52, 32] else if m = 2 then [49, 48, 48, 55, 53, 53, 32] else if m = 3 then [49, 50, 48, 48, 48, 48, 32] else [52, 48, 48, 48, 48, 32]
end Go.Graft
namespace Go.Proofs.Tryz
open Go Go.Sym Go.Graft
set_option maxRecDepth 20000
theorem cPerson2 (n m : Str) (t z : Int) (hn : n.length ≤ 1000000000000) (hm : m.length ≤ 1000000000000) : Ctr prog 104 [perPV n m t z] [] (bV (perOk n m t z)) [] [] := by
  have c1 := cNamed2 n hn
  have c2 := cNamed2 m hm
  have e : perOk n m t z = (namOk n && namOk m && decide (0 ≤ t) && decide (t ≤ 1099511627776) && decide (-840 ≤ z) && decide (z ≤ 840)) := rfl
  rw [e]
  generalize namOk n = a at *
  generalize namOk m = b at *
  refine Ctr.enter tblOk func104 rfl (by decide) rfl (nt := 31) rfl rfl rfl rfl ?_
  refine Trip.seq ?_
  apply Trip.reg tblOk
  · repeat' (first | exact rfl | constructor)
  · exact rfl
  refine Trip.seq ?_
  apply Trip.reg tblOk
  · repeat' (first | exact rfl | (apply Rule.sem; intro hγ; with_reducible apply F_call0 (dst := some 5) (x := .func 140) (B := []) hγ (hspec := c1)) | (apply Rule.sem; intro hγ; with_reducible apply F_call0 (dst := some 9) (x := .func 140) (B := []) hγ (hspec := c2)) | ((with_reducible refine Side.mk ?_); first | exact .inl rfl | exact fun h => h | exact fun _ h => h) | constructor)
  · exact rfl
  refine Trip.ret ?_
  apply Ret1 []
  · repeat' (first | exact rfl | constructor)
  · exact rfl
  · repeat' (exact cvB (by simp only [List.length_map]))
theorem cSomebody (n m : Str) (t z : Int) (hn : n.length ≤ 1000000000000) (hm : m.length ≤ 1000000000000) : Ctr prog 152 [perPV n m t z] [] (bV (perOk n m t z)) [] [] := by
  have c1 := cNamed n hn
  have c2 := cNamed m hm
  have e : perOk n m t z = (namOk n && namOk m && decide (0 ≤ t) && decide (t ≤ 1099511627776) && decide (-840 ≤ z) && decide (z ≤ 840)) := rfl
  rw [e]
  generalize namOk n = a at *
  generalize namOk m = b at *
  refine Ctr.enter tblOk func152 rfl (by decide) rfl (nt := 31) rfl rfl rfl rfl ?_
  refine Trip.seq ?_
  apply Trip.reg tblOk
  · repeat' (first | exact rfl | constructor)
  · exact rfl
  refine Trip.seq ?_
  apply Trip.reg tblOk
  · repeat' (first | exact rfl | (apply Rule.sem; intro hγ; with_reducible apply F_call0 (dst := some 5) (x := .func 186) (B := []) hγ (hspec := c1)) | (apply Rule.sem; intro hγ; with_reducible apply F_call0 (dst := some 9) (x := .func 186) (B := []) hγ (hspec := c2)) | ((with_reducible refine Side.mk ?_); first | exact .inl rfl | exact fun h => h | exact fun _ h => h) | constructor)
  · exact rfl
  refine Trip.ret ?_
  apply Ret1 []
  · repeat' (first | exact rfl | constructor)
  · exact rfl
  · repeat' (exact cvB (by simp only [List.length_map]))
theorem cKey15 (m : Int) (n i : Str) (hn : n.length ≤ 1000000000000) : Ctr prog 161 [entPV m n i] [] (sV (keyE m n)) [] [] := by
  refine Ctr.enter tblOk func161 rfl (by decide) rfl (nt := 11) rfl rfl rfl rfl ?_
  refine Trip.seq ?_
  apply Trip.reg tblOk
  · repeat' (first | exact rfl | constructor)
  · exact rfl
  refine Trip.seq ?_
  refine Trip.seq ?_
  apply Trip.reg tblOk
  · repeat' (first | exact rfl | constructor)
  · exact rfl
  apply Trip.cond (.tmp rfl)
  · intro h
    have h : m = 4 := by simpa using h
    rw [keyE, if_pos h]
    refine Trip.seq ?_
    apply Trip.reg tblOk
    · repeat' (first | exact rfl | ((with_reducible refine Side.mk ?_); (simp only [ln]; first | done | omega)) | constructor)
    · exact rfl
    refine Trip.ret ?_
    apply Ret1 []
    · repeat' (first | exact rfl | constructor)
    · exact rfl
    · repeat' constructor
  intro h
  have h : ¬ m = 4 := by simpa using h
  rw [keyE, if_neg h]
  refine Trip.skip ?_
  refine Trip.seq ?_
  apply Trip.reg tblOk
  · repeat' (first | exact rfl | constructor)
  · exact rfl
  refine Trip.ret ?_
  apply Ret1 []
  · repeat' (first | exact rfl | constructor)
  · exact rfl
  · repeat' constructor
theorem cKey (m : Int) (n i : Str) (hn : n.length ≤ 1000000000000) : Ctr prog 181 [entPV m n i] [] (sV (keyE m n)) [] [] := by
  refine Ctr.enter tblOk func181 rfl (by decide) rfl (nt := 11) rfl rfl rfl rfl ?_
  refine Trip.seq ?_
  apply Trip.reg tblOk
  · repeat' (first | exact rfl | constructor)
  · exact rfl
  refine Trip.seq ?_
  refine Trip.seq ?_
  apply Trip.reg tblOk
  · repeat' (first | exact rfl | constructor)
  · exact rfl
  apply Trip.cond (.tmp rfl)
  · intro h
    have h : m = 4 := by simpa using h
    rw [keyE, if_pos h]
    refine Trip.seq ?_
    apply Trip.reg tblOk
    · repeat' (first | exact rfl | ((with_reducible refine Side.mk ?_); (simp only [ln]; first | done | omega)) | constructor)
    · exact rfl
    refine Trip.ret ?_
    apply Ret1 []
    · repeat' (first | exact rfl | constructor)
    · exact rfl
    · repeat' constructor
  intro h
  have h : ¬ m = 4 := by simpa using h
  rw [keyE, if_neg h]
  refine Trip.skip ?_
  refine Trip.seq ?_
  apply Trip.reg tblOk
  · repeat' (first | exact rfl | constructor)
  · exact rfl
  refine Trip.ret ?_
  apply Ret1 []
  · repeat' (first | exact rfl | constructor)
  · exact rfl
  · repeat' constructor
theorem cLess15 (m : Int) (n i : Str) (m' : Int) (n' i' : Str) (hn : n.length ≤ 1000000000000) (hn' : n'.length ≤ 1000000000000) : Ctr prog 132 [entPV m n i, entPV m' n' i'] [] (bV (Op.bytesLess (keyE m n) (keyE m' n'))) [] [] := by
  have c1 := cKey15 m n i hn
  have c2 := cKey15 m' n' i' hn'
  generalize keyE m n = a at *
  generalize keyE m' n' = b at *
  refine Ctr.enter tblOk func132 rfl (by decide) rfl (nt := 10) rfl rfl rfl rfl ?_
  refine Trip.seq ?_
  apply Trip.reg tblOk
  · repeat' (first | exact rfl | constructor)
  · exact rfl
  refine Trip.seq ?_
  apply Trip.drw tblOk mixed
  · repeat' (first | exact rfl | (apply Rule.sem; intro hγ; with_reducible apply F_call0 (dst := some 6) (x := .func 161) (B := []) hγ (hspec := c1)) | (apply Rule.sem; intro hγ; with_reducible apply F_call0 (dst := some 8) (x := .func 161) (B := []) hγ (hspec := c2)) | ((with_reducible refine Side.mk ?_); exact .inl rfl) | constructor)
  · exact rfl
  · kernel_rfl
  refine Trip.ret ?_
  apply Ret1 []
  · repeat' (first | exact rfl | constructor)
  · exact rfl
  · repeat' (exact cvB (by simp only [List.length_map]))
theorem cLess (m : Int) (n i : Str) (m' : Int) (n' i' : Str) (hn : n.length ≤ 1000000000000) (hn' : n'.length ≤ 1000000000000) : Ctr prog 147 [entPV m n i, entPV m' n' i'] [] (bV (Op.bytesLess (keyE m n) (keyE m' n'))) [] [] := by
  have c1 := cKey m n i hn
  have c2 := cKey m' n' i' hn'
  generalize keyE m n = a at *
  generalize keyE m' n' = b at *
  refine Ctr.enter tblOk func147 rfl (by decide) rfl (nt := 10) rfl rfl rfl rfl ?_
  refine Trip.seq ?_
  apply Trip.reg tblOk
  · repeat' (first | exact rfl | constructor)
  · exact rfl
  refine Trip.seq ?_
  apply Trip.drw tblOk mixed
  · repeat' (first | exact rfl | (apply Rule.sem; intro hγ; with_reducible apply F_call0 (dst := some 6) (x := .func 181) (B := []) hγ (hspec := c1)) | (apply Rule.sem; intro hγ; with_reducible apply F_call0 (dst := some 8) (x := .func 181) (B := []) hγ (hspec := c2)) | ((with_reducible refine Side.mk ?_); exact .inl rfl) | constructor)
  · exact rfl
  · kernel_rfl
  refine Trip.ret ?_
  apply Ret1 []
  · repeat' (first | exact rfl | constructor)
  · exact rfl
  · repeat' (exact cvB (by simp only [List.length_map]))
theorem cDig15 (m : Int) : Ctr prog 129 [iV m] [] (sV (modeD m)) [] [] := by
  refine Ctr.enter tblOk func129 rfl (by decide) rfl (nt := 9) rfl rfl rfl rfl ?_
  refine Trip.seq ?_
  apply Trip.reg tblOk
  · repeat' constructor
  · exact rfl
  refine Trip.seq ?_
  refine Trip.seq ?_
  apply Trip.reg tblOk
  · repeat' (first | exact rfl | constructor)
  · exact rfl
  apply Trip.cond (.tmp rfl)
  · intro h
    have h : m = 1 := by simpa using h
    subst h
    refine Trip.seq ?_
    apply Trip.reg tblOk
    · repeat' constructor
    · exact rfl
    refine Trip.ret ?_
    apply Ret1 []
    · repeat' (first | exact rfl | constructor)
    · exact rfl
    · repeat' constructor
  intro h1
  have h1 : ¬ m = 1 := by simpa using h1
  refine Trip.skip ?_
  refine Trip.seq ?_
  refine Trip.seq ?_
  apply Trip.reg tblOk
  · repeat' (first | exact rfl | constructor)
  · exact rfl
  apply Trip.cond (.tmp rfl)
  · intro h
    have h : m = 2 := by simpa using h
    subst h
    refine Trip.seq ?_
    apply Trip.reg tblOk
    · repeat' constructor
    · exact rfl
    refine Trip.ret ?_
    apply Ret1 []
    · repeat' (first | exact rfl | constructor)
    · exact rfl
    · repeat' constructor
  intro h2
  have h2 : ¬ m = 2 := by simpa using h2
  refine Trip.skip ?_
  refine Trip.seq ?_
  refine Trip.seq ?_
  apply Trip.reg tblOk
  · repeat' (first | exact rfl | constructor)
  · exact rfl
  apply Trip.cond (.tmp rfl)
  · intro h
    have h : m = 3 := by simpa using h
    subst h
    refine Trip.seq ?_
    apply Trip.reg tblOk
    · repeat' constructor
    · exact rfl
    refine Trip.ret ?_
    apply Ret1 []
    · repeat' (first | exact rfl | constructor)
    · exact rfl
    · repeat' constructor
  intro h3
  have h3 : ¬ m = 3 := by simpa using h3
  refine Trip.skip ?_
  rw [modeD, if_neg h1, if_neg h2, if_neg h3]
  refine Trip.seq ?_
  apply Trip.reg tblOk
  · repeat' constructor
  · exact rfl
  refine Trip.ret ?_
  apply Ret1 []
  · repeat' (first | exact rfl | constructor)
  · exact rfl
  · repeat' constructor
end Go.Proofs.Tryz
namespace Go.Graft
def modeP (m : Int) : Str := if m = 1 then [49, 48, 48, 54, 52, 52, 32] else if m = 2 then [49, 48, 48, 55, 53, 53, 32] else if m = 3 then [49, 50, 48, 48, 48, 48, 32] else if m = 4 then [52, 48, 48, 48, 48, 32] else []
def zC (c : UInt8) : Bool := decide ((c.toNat : Int) = 0)
def hasZ (s : Str) : Bool := !(s.all fun c => !zC c)
theorem hasZ_true {s : Str} {i : Nat} (h : i < s.length) (hp : zC (s.getD i 0) = true) : hasZ s = true := by
  rw [hasZ, all_false (p := fun c => !zC c) h (by rw [hp]; rfl)]; rfl
theorem hasZ_false {s : Str} (h : ∀ i, i < s.length → zC (s.getD i 0) = false) : hasZ s = false := by
  rw [hasZ, all_true (p := fun c => !zC c) fun i hi => by rw [h i hi]; rfl]; rfl
def hasS (l : List Str) (x : Str) : Bool := decide (x ∈ l)
theorem hasS_true {l : List Str} {i : Nat} {x : Str} (h : i < l.length) (hx : l[i]! = x) : hasS l x = true := by
  rw [hasS, decide_eq_true_eq, ← hx, getElem!_pos l i h]; exact List.getElem_mem h
theorem hasS_false {l : List Str} {x : Str} (h : ∀ i, i < l.length → l[i]! ≠ x) : hasS l x = false := by
  rw [hasS, decide_eq_false_iff_not]
  intro hm
  obtain ⟨i, hi, e⟩ := List.getElem_of_mem hm
  exact h i hi (by rw [getElem!_pos l i hi]; exact e)
end Go.Graft
namespace Go.Proofs.Tryz
open Go Go.Sym Go.Graft
set_option maxRecDepth 20000
theorem cDigT (k : Int) : Ctr prog 144 [iV k] [] (sV (modeP k)) [] [] := by
  refine Ctr.enter tblOk func144 rfl (by decide) rfl (nt := 12) rfl rfl rfl rfl ?_
  refine Trip.seq ?_
  apply Trip.reg tblOk
  · repeat' constructor
  · exact rfl
  refine Trip.seq ?_
  refine Trip.seq ?_
  apply Trip.reg tblOk
  · repeat' (first | exact rfl | constructor)
  · exact rfl
  refine Trip.block ?_
  refine Trip.seq ?_
  apply Trip.reg tblOk
  · repeat' (first | exact rfl | constructor)
  · exact rfl
  apply Trip.cond (.tmp rfl)
  · intro h
    have h : k = 1 := by simpa using h
    subst h
    refine Trip.seq ?_
    apply Trip.reg tblOk
    · repeat' constructor
    · exact rfl
    refine Trip.ret ?_
    apply Ret1 []
    · repeat' (first | exact rfl | constructor)
    · exact rfl
    · repeat' constructor
  intro h1
  have h1 : ¬ k = 1 := by simpa using h1
  refine Trip.seq ?_
  apply Trip.reg tblOk
  · repeat' (first | exact rfl | constructor)
  · exact rfl
  apply Trip.cond (.tmp rfl)
  · intro h
    have h : k = 2 := by simpa using h
    subst h
    refine Trip.seq ?_
    apply Trip.reg tblOk
    · repeat' constructor
    · exact rfl
    refine Trip.ret ?_
    apply Ret1 []
    · repeat' (first | exact rfl | constructor)
    · exact rfl
    · repeat' constructor
  intro h2
  have h2 : ¬ k = 2 := by simpa using h2
  refine Trip.seq ?_
  apply Trip.reg tblOk
  · repeat' (first | exact rfl | constructor)
  · exact rfl
  apply Trip.cond (.tmp rfl)
  · intro h
    have h : k = 3 := by simpa using h
    subst h
    refine Trip.seq ?_
    apply Trip.reg tblOk
    · repeat' constructor
    · exact rfl
    refine Trip.ret ?_
    apply Ret1 []
    · repeat' (first | exact rfl | constructor)
    · exact rfl
    · repeat' constructor
  intro h3
  have h3 : ¬ k = 3 := by simpa using h3
  refine Trip.seq ?_
  apply Trip.reg tblOk
  · repeat' (first | exact rfl | constructor)
  · exact rfl
  apply Trip.cond (.tmp rfl)
  · intro h
    have h : k = 4 := by simpa using h
    subst h
    refine Trip.seq ?_
    apply Trip.reg tblOk
    · repeat' constructor
    · exact rfl
    refine Trip.ret ?_
    apply Ret1 []
    · repeat' (first | exact rfl | constructor)
    · exact rfl
    · repeat' constructor
  intro h4
  have h4 : ¬ k = 4 := by simpa using h4
  have e : modeP k = [] := by rw [modeP, if_neg h1, if_neg h2, if_neg h3, if_neg h4]
  rw [e]
  refine Trip.skip ?_
  refine Trip.seq ?_
  apply Trip.reg tblOk
  · repeat' constructor
  · exact rfl
  refine Trip.ret ?_
  apply Ret1 []
  · repeat' (first | exact rfl | constructor)
  · exact rfl
  · repeat' constructor
theorem cZero (s : Str) (hs : s.length ≤ 1000000000000) : Ctr prog 105 [sV s] [] (bV (hasZ s)) [] [] := by
  refine Ctr.enter tblOk func105 rfl (by decide) rfl (nt := 14) rfl rfl rfl rfl ?_
  refine Trip.seq ?_
  apply Trip.reg tblOk
  · repeat' constructor
  · exact rfl
  refine Trip.seq ?_
  refine Trip.seq ?_
  apply Trip.reg tblOk
  · repeat' constructor
  · exact rfl
  refine Trip.block ?_
  apply Trip.loop (fun (i : Nat) => ⟨[(0, sV s), (3, iV i)], []⟩) (fun (i : Nat) => i ≤ s.length ∧ ∀ j, j < i → zC (s.getD j 0) = false) (fun (i : Nat) => s.length - i) (0)
  · exact ⟨Nat.zero_le _, fun j hj => absurd hj (by omega)⟩
  · apply Weak.keep
    · exact rfl
    · repeat' (first | exact rfl | constructor)
    · repeat' constructor
    · exact rfl
    · repeat' constructor
  intro i hi
  obtain ⟨hi, hj⟩ := hi
  refine Trip.seq ?_
  refine Trip.seq ?_
  apply Trip.reg tblOk
  · repeat' (first | exact rfl | constructor)
  · exact rfl
  apply Trip.cond (.tmp rfl)
  · intro h
    have h : i < s.length := by simp at h; omega
    refine Trip.skip ?_
    refine Trip.seq ?_
    refine Trip.block ?_
    refine Trip.seq ?_
    apply Trip.reg tblOk
    · repeat' (first | exact rfl | ((with_reducible refine Side.mk ?_); omega) | constructor)
    · exact rfl
    apply Trip.cond (.tmp rfl)
    · intro h2
      have h2 : zC (s.getD i 0) = true := h2
      rw [hasZ_true h h2]
      refine Trip.seq ?_
      apply Trip.reg tblOk
      · repeat' constructor
      · exact rfl
      refine Trip.ret ?_
      apply Ret1 []
      · repeat' (first | exact rfl | constructor)
      · exact rfl
      · repeat' (exact cvB (by simp only [List.length_map]))
    intro h2
    have h2 : zC (s.getD i 0) = false := h2
    refine Trip.skip ?_
    apply Trip.reg tblOk
    · repeat' (first | exact rfl | ((with_reducible refine Side.mk ?_); omega) | constructor)
    · exact rfl
    refine ⟨i + 1, ?_, ?_, ?_⟩
    · exact ⟨by omega, fun j h3 => (Nat.lt_succ_iff_lt_or_eq.1 h3).elim (hj j) (fun e => e ▸ h2)⟩
    · first | omega | (dsimp only at *; omega)
    · apply Weak.keep
      · exact rfl
      · repeat' (first | exact rfl | constructor)
      · repeat' constructor
      · exact rfl
      · repeat' constructor
  intro h
  have h : i = s.length := by simp at h; omega
  subst h
  refine Trip.exit ?_
  rw [hasZ_false hj]
  refine Trip.seq ?_
  apply Trip.reg tblOk
  · repeat' constructor
  · exact rfl
  refine Trip.ret ?_
  apply Ret1 []
  · repeat' (first | exact rfl | constructor)
  · exact rfl
  · repeat' (exact cvB (by simp only [List.length_map]))
theorem cHas06 (nl : Bool) (l : List Str) (x : Str) (hs : l.length ≤ 1000000000000) : Ctr prog 103 [.sl nl 1 (l.map sV), sV x] [] (bV (hasS l x)) [] [] := by
  refine Ctr.enter tblOk func103 rfl (by decide) rfl (nt := 18) rfl rfl rfl rfl ?_
  refine Trip.seq ?_
  apply Trip.reg tblOk
  · repeat' constructor
  · exact rfl
  refine Trip.seq ?_
  refine Trip.seq ?_
  apply Trip.reg tblOk
  · repeat' constructor
  · exact rfl
  refine Trip.block ?_
  apply Trip.loop (fun (i : Nat) => ⟨[(0, .sl nl 1 (l.map sV)), (1, sV x), (5, iV i)], []⟩) (fun (i : Nat) => i ≤ l.length ∧ ∀ j, j < i → l[j]! ≠ x) (fun (i : Nat) => l.length - i) (0)
  · exact ⟨Nat.zero_le _, fun j hj => absurd hj (by omega)⟩
  · apply Weak.keep
    · exact rfl
    · repeat' (first | exact rfl | constructor)
    · repeat' constructor
    · exact rfl
    · repeat' constructor
  intro i hi
  obtain ⟨hi, hj⟩ := hi
  refine Trip.seq ?_
  refine Trip.seq ?_
  apply Trip.reg tblOk
  · repeat' (first | exact rfl | constructor)
  · exact rfl
  apply Trip.cond (.tmp rfl)
  · intro h
    have h : i < l.length := by simp at h; omega
    refine Trip.skip ?_
    refine Trip.seq ?_
    refine Trip.block ?_
    refine Trip.seq ?_
    apply Trip.reg tblOk
    · repeat' (first | exact rfl | exact idx_map _ _ _ (by show _ < _; first | omega | (simp only [List.length_map] at *; omega)) | ((with_reducible refine Side.mk ?_); (simp only [ln]; first | done | omega)) | constructor)
    · exact rfl
    apply Trip.cond (.tmp rfl)
    · intro h2
      have h2 : l[i]! = x := by simpa using h2
      rw [hasS_true h h2]
      refine Trip.seq ?_
      apply Trip.reg tblOk
      · repeat' constructor
      · exact rfl
      refine Trip.ret ?_
      apply Ret1 []
      · repeat' (first | exact rfl | constructor)
      · exact rfl
      · repeat' (exact cvB (by simp only [List.length_map]))
    intro h2
    have h2 : ¬ l[i]! = x := by simpa using h2
    refine Trip.skip ?_
    apply Trip.reg tblOk
    · repeat' (first | exact rfl | ((with_reducible refine Side.mk ?_); omega) | constructor)
    · exact rfl
    refine ⟨i + 1, ?_, ?_, ?_⟩
    · exact ⟨by omega, fun j h3 => (Nat.lt_succ_iff_lt_or_eq.1 h3).elim (hj j) (fun e => e ▸ h2)⟩
    · first | omega | (dsimp only at *; omega)
    · apply Weak.keep
      · exact rfl
      · repeat' (first | exact rfl | constructor)
      · repeat' constructor
      · exact rfl
      · repeat' constructor
  intro h
  have h : i = l.length := by simp at h; omega
  subst h
  refine Trip.exit ?_
  rw [hasS_false hj]
  refine Trip.seq ?_
  apply Trip.reg tblOk
  · repeat' constructor
  · exact rfl
  refine Trip.ret ?_
  apply Ret1 []
  · repeat' (first | exact rfl | constructor)
  · exact rfl
  · repeat' (exact cvB (by simp only [List.length_map]))
end Go.Proofs.Tryz
namespace Go.Graft
def hv (less : Nat → Bool) : Nat → Nat → Nat → Nat
  | 0, lo, _ => lo
  | f + 1, lo, hi => if lo < hi then (if less ((lo + hi) / 2) then hv less f ((lo + hi) / 2 + 1) hi else hv less f lo ((lo + hi) / 2)) else lo
theorem hv_fuel (less : Nat → Bool) : ∀ (f f' lo hi : Nat), hi - lo ≤ f → hi - lo ≤ f' → hv less f lo hi = hv less f' lo hi
  | 0, 0, lo, hi, _, _ => rfl
  | 0, f' + 1, lo, hi, h, _ => by rw [hv, hv, if_neg (by omega)]
  | f + 1, 0, lo, hi, _, h => by rw [hv, hv, if_neg (by omega)]
  | f + 1, f' + 1, lo, hi, h, h' => by
    rw [hv, hv]
    split
    · split
      · exact hv_fuel less f f' _ _ (by omega) (by omega)
      · exact hv_fuel less f f' _ _ (by omega) (by omega)
    · rfl
def halve (less : Nat → Bool) (n : Nat) : Nat := hv less n 0 n
def hvAt (less : Nat → Bool) (lo hi : Nat) : Nat := hv less (hi - lo) lo hi
theorem hvAt_lt (less : Nat → Bool) (lo hi : Nat) (h : lo < hi) : hvAt less lo hi = if less ((lo + hi) / 2) then hvAt less ((lo + hi) / 2 + 1) hi else hvAt less lo ((lo + hi) / 2) := by
  rw [hvAt, hv_fuel less (hi - lo) (hi - lo + 1) lo hi (by omega) (by omega), hv, if_pos h]
  split
  · exact hv_fuel less _ _ _ _ (by omega) (by omega)
  · exact hv_fuel less _ _ _ _ (by omega) (by omega)
theorem hvAt_ge (less : Nat → Bool) (lo hi : Nat) (h : ¬ lo < hi) : hvAt less lo hi = lo := by
  rw [hvAt, show hi - lo = 0 by omega, hv]
theorem halve_eq (less : Nat → Bool) (n : Nat) : halve less n = hvAt less 0 n := by rw [halve, hvAt, Nat.sub_zero]
theorem hvAt_le (less : Nat → Bool) : ∀ (d lo hi : Nat), hi - lo = d → lo ≤ hi → lo ≤ hvAt less lo hi ∧ hvAt less lo hi ≤ hi := by
  intro d
  induction d using Nat.strongRecOn with
  | _ d ih =>
    intro lo hi hd hle
    by_cases h : lo < hi
    · rw [hvAt_lt less lo hi h]
      split
      · have := ih (hi - ((lo + hi) / 2 + 1)) (by omega) ((lo + hi) / 2 + 1) hi rfl (by omega)
        omega
      · have := ih ((lo + hi) / 2 - lo) (by omega) lo ((lo + hi) / 2) rfl (by omega)
        omega
    · rw [hvAt_ge less lo hi h]; omega
def spot (l : List Str) (x : Str) : Nat := halve (fun i => Op.bytesLess l[i]! x) l.length
end Go.Graft
