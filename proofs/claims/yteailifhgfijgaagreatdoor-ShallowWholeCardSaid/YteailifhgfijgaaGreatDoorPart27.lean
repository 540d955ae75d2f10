/- A part of the proof: Gn, Gp, Gq, Gr, Gt, Gu, Gv, Gw, Gx, Gy, Gz, Gza. -/
import Derived.Test.YteailifhgfijgaaGreatDoorPart26
set_option linter.unusedVariables false
set_option linter.unusedSimpArgs false
namespace Go.Proofs.Tryz
open Go Go.Sym Go.Graft
set_option maxRecDepth 20000
theorem objErr_len {k : Int} {b : Str} (h : objErr k b = 0) : b.length ≤ 1048576 := by
 unfold objErr at h
 split at h
 ·cases h
 ·split at h
  ·cases h
  ·omega
theorem cBytes (k : Int) (b : Str) : Ctr prog 91 [objPV k b] [] (.tup [sV (objBytes k b), iV (objErr k b)]) [] [] := by
 have c1 := cWord k
 have hw := wordK_len k
 have c2 := fun (h : b.length ≤ 1048576) => sItoa (b.length : Int) (by omega) (by omega)
 have e : objText k b = wordK k ++ [32] ++ Lib.itoa b.length ++ [0] ++ b := rfl
 have e2 : objBytes k b = if objErr k b = 0 then objText k b else [] := rfl
 have e3 : objErr k b = if wordK k = [] then 140 else if (1048576 : Int) < b.length then 4 else 0 := rfl
 have hdl := decLen b.length
 rw [← itoa_nat] at hdl
 rw [e2, e, e3]
 generalize wordK k = w at *
 generalize Lib.itoa (b.length : Int) = dd at *
 refine Ctr.enter tblOk func91 rfl (by decide) rfl (nt := 27) rfl rfl rfl rfl ?_
 refine Trip.sr tblOk ?_
 refine Trip.sR tblOk (by repeat' (first | exact rfl | (apply Rule.sem; intro hγ; with_reducible apply F_call0 (x := .func 138) (B := []) hγ (hspec := c1)) | ((with_reducible refine Side.mk ?_); exact .inl rfl) | constructor)) ?_
 refine Trip.seq (Trip.block (Trip.sr tblOk ?_))
 apply Trip.cond (.tmp rfl)
 ·intro h
  have h : w = [] := by simpa using h
  simp only [if_pos h]
  refine Trip.sr tblOk ?_
  refine Trip.ret (rt2 [])
 intro h
 have h : ¬ w = [] := by simpa using h
 simp only [if_neg h]
 refine Trip.sr tblOk ?_
 apply Trip.cond (.tmp rfl)
 ·intro h
  have h : (1048576 : Int) < b.length := by simpa using h
  simp only [if_pos h]
  refine Trip.sr tblOk ?_
  refine Trip.ret (rt2 [])
 intro h
 have h : ¬ (1048576 : Int) < b.length := by simpa using h
 have hdl := hdl (by omega)
 have c2 := c2 (by omega)
 simp only [if_neg h, if_true]
 refine Trip.skip (Trip.sD tblOk mixed (by repeat' (first | exact rfl | (apply Rule.sem; intro hγ; with_reducible apply F_call0 (x := .func 139) (B := []) hγ (hspec := c2)) | ((with_reducible refine Side.mk ?_); first | exact .inl rfl | (simp only [ln]; first | done | omega)) | constructor)) ?_)
 refine Trip.ret (rt2 [])
end Go.Proofs.Tryz
namespace Go.Proofs.Tryz
open Go Go.Sym Go.Graft
set_option maxRecDepth 20000
theorem cPart (s : Str) (hs : s.length ≤ 1000000000000) : Ctr prog 194 [sV s] [] (bV (partOk s)) [] [] := by
 have hpb : partBad s = (decide ((s.length : Int) < 1) || decide (64 < (s.length : Int)) || decide (s = [46]) || decide (s = [46, 46]) || decide (s = [46, 103, 114, 97, 102, 116])) := rfl
 refine Ctr.enter tblOk func194 rfl (by decide) rfl (nt := 34) rfl rfl rfl rfl ?_
 refine Trip.sr tblOk ?_
 refine Trip.seq (Trip.sR tblOk (by repeat' (first | exact rfl | ((with_reducible refine Side.mk ?_); first | exact fun h => h | exact fun _ h => congrArg Bool.not h) | constructor)) ?_)
 apply Trip.cond (.tmp rfl)
 ·intro h
  have h : partBad s = true := h
  rw [(partOk_bad h).1]
  refine Trip.sr tblOk ?_
  refine Trip.ret (rt1 [] (hc := by repeat' (exact cvB (by simp only [List.length_map]))))
 intro h
 have hb : partBad s = false := h
 refine Trip.skip (Trip.seq (Trip.sr tblOk ?_))
 refine Trip.block ?_
 refine Trip.loop (fun (i : Nat) => ⟨[(0, sV s), (25, iV s.length), (26, iV i)], []⟩) (fun (i : Nat) => i ≤ s.length ∧ ∀ j, j < i → 32 ≤ (s.getD j 0).toNat) (fun (i : Nat) => s.length - i) (0) (by exact ⟨Nat.zero_le _, fun j hj => absurd hj (by omega)⟩) Weak.kp ?_
 intro i hi
 obtain ⟨hi, hj⟩ := hi
 refine Trip.sr tblOk ?_
 refine Trip.seq ?_
 apply Trip.cond (.tmp rfl)
 ·intro h
  have h : i < s.length := by simp at h; omega
  refine Trip.skip (Trip.seq (Trip.block (Trip.sr tblOk ?_)))
  refine Trip.sR tblOk (by repeat' (first | exact rfl | ((with_reducible refine Side.mk ?_); omega) | constructor)) ?_
  apply Trip.cond (.tmp rfl)
  ·intro h2
   have h2 : ¬ 32 ≤ (s.getD i 0).toNat := by
    have : ((s.getD i 0).toNat : Int) < 32 := by simpa using h2
    omega
   rw [partOk_false h h2]
   refine Trip.sr tblOk ?_
   refine Trip.ret (rt1 [] (hc := by repeat' (exact cvB (by simp only [List.length_map]))))
  intro h2
  have h2 : 32 ≤ (s.getD i 0).toNat := by
   have : ¬ ((s.getD i 0).toNat : Int) < 32 := by simpa using h2
   omega
  refine Trip.skip (Trip.R tblOk (by repeat' (first | exact rfl | ((with_reducible refine Side.mk ?_); omega) | constructor)) ?_)
  exact ⟨i + 1, by exact ⟨by omega, fun j h3 => (Nat.lt_succ_iff_lt_or_eq.1 h3).elim (hj j) (fun e => e ▸ h2)⟩, by first | omega | (dsimp only at *; omega), Weak.kp⟩
 intro h
 have h : i = s.length := by simp at h; omega
 subst h
 refine Trip.exit ?_
 rw [partOk_true hb hj]
 refine Trip.sr tblOk ?_
 refine Trip.ret (rt1 [] (hc := by repeat' (exact cvB (by simp only [List.length_map]))))
theorem cPart2 (s : Str) (hs : s.length ≤ 1000000000000) : Ctr prog 185 [sV s] [] (bV (partOk2 s)) [] [] := by
 refine Ctr.enter tblOk func185 rfl (by decide) rfl (nt := 40) rfl rfl rfl rfl ?_
 refine Trip.sr tblOk ?_
 refine Trip.seq (Trip.sR tblOk (by repeat' (first | exact rfl | ((with_reducible refine Side.mk ?_); first | exact fun h => h | exact fun _ h => congrArg Bool.not h) | constructor)) ?_)
 apply Trip.cond (.tmp rfl)
 ·intro h
  have h : partBad s = true := h
  rw [(partOk_bad h).2]
  refine Trip.sr tblOk ?_
  refine Trip.ret (rt1 [] (hc := by repeat' (exact cvB (by simp only [List.length_map]))))
 intro h
 have hb : partBad s = false := h
 refine Trip.skip (Trip.seq (Trip.sr tblOk ?_))
 refine Trip.block ?_
 refine Trip.loop (fun (i : Nat) => ⟨[(0, sV s), (3, iV i)], []⟩) (fun (i : Nat) => i ≤ s.length ∧ ∀ j, j < i → 32 ≤ (s.getD j 0).toNat ∧ ¬ ((s.getD j 0).toNat : Int) = 47) (fun (i : Nat) => s.length - i) (0) (by exact ⟨Nat.zero_le _, fun j hj => absurd hj (by omega)⟩) Weak.kp ?_
 intro i hi
 obtain ⟨hi, hj⟩ := hi
 refine Trip.seq (Trip.sr tblOk ?_)
 apply Trip.cond (.tmp rfl)
 ·intro h
  have h : i < s.length := by simp at h; omega
  refine Trip.skip (Trip.seq (Trip.block (Trip.sR tblOk (by repeat' (first | exact rfl | ((with_reducible refine Side.mk ?_); first | omega | exact fun h => h | exact fun _ h => congrArg Bool.not h) | constructor)) ?_)))
  apply Trip.cond (.tmp rfl)
  ·intro h2
   have h2 : ¬ (32 ≤ (s.getD i 0).toNat ∧ ¬ ((s.getD i 0).toNat : Int) = 47) := by
    have : ((s.getD i 0).toNat : Int) < 32 ∨ ((s.getD i 0).toNat : Int) = 47 := by simpa using h2
    omega
   rw [partOk2_false h h2]
   refine Trip.sr tblOk ?_
   refine Trip.ret (rt1 [] (hc := by repeat' (exact cvB (by simp only [List.length_map]))))
  intro h2
  have h2 : 32 ≤ (s.getD i 0).toNat ∧ ¬ ((s.getD i 0).toNat : Int) = 47 := by
   have : ¬ (((s.getD i 0).toNat : Int) < 32 ∨ ((s.getD i 0).toNat : Int) = 47) := by simpa using h2
   omega
  refine Trip.skip (Trip.R tblOk (by repeat' (first | exact rfl | ((with_reducible refine Side.mk ?_); omega) | constructor)) ?_)
  exact ⟨i + 1, by exact ⟨by omega, fun j h3 => (Nat.lt_succ_iff_lt_or_eq.1 h3).elim (hj j) (fun e => e ▸ h2)⟩, by first | omega | (dsimp only at *; omega), Weak.kp⟩
 intro h
 have h : i = s.length := by simp at h; omega
 subst h
 refine Trip.exit ?_
 rw [partOk2_true hb hj]
 refine Trip.sr tblOk ?_
 refine Trip.ret (rt1 [] (hc := by repeat' (exact cvB (by simp only [List.length_map]))))
end Go.Proofs.Tryz
namespace Go.Proofs.Tryz
open Go Go.Sym Go.Graft
set_option maxRecDepth 20000
theorem cFind14 (s : Str) (c : UInt8) (a : Nat) (hs : s.length ≤ 1000000000000) (ha : a ≤ s.length) : Ctr prog 110 [sV s, u8V c, iV a] [] (iV (findB s c a)) [] [] := by
 refine Ctr.enter tblOk func110 rfl (by decide) rfl (nt := 21) rfl rfl rfl rfl ?_
 refine Trip.sr tblOk ?_
 refine Trip.seq (Trip.sr tblOk ?_)
 refine Trip.block ?_
 refine Trip.loop (fun (i : Nat) => ⟨[(0, sV s), (1, u8V c), (7, iV i)], []⟩) (fun (i : Nat) => a ≤ i ∧ i ≤ s.length ∧ ∀ j, a ≤ j → j < i → s.getD j 0 ≠ c) (fun (i : Nat) => s.length - i) (a) (by exact ⟨Nat.le_refl _, ha, fun j hj hj2 => absurd hj (by omega)⟩) Weak.kp ?_
 intro i hi
 obtain ⟨hi0, hi, hj⟩ := hi
 refine Trip.seq (Trip.sr tblOk ?_)
 apply Trip.cond (.tmp rfl)
 ·intro h
  have h : i < s.length := by simp at h; omega
  refine Trip.skip (Trip.seq (Trip.block (Trip.sR tblOk (by repeat' (first | exact rfl | ((with_reducible refine Side.mk ?_); omega) | constructor)) ?_)))
  apply Trip.cond (.tmp rfl)
  ·intro h2
   have h2 : s.getD i 0 = c := u8_eq (by simpa using h2)
   rw [findB_some hi0 h hj h2]
   refine Trip.sr tblOk ?_
   refine Trip.ret (rt1 [])
  intro h2
  have h2 : s.getD i 0 ≠ c := u8_ne (by simpa using h2)
  refine Trip.skip (Trip.R tblOk (by repeat' (first | exact rfl | ((with_reducible refine Side.mk ?_); omega) | constructor)) ?_)
  exact ⟨i + 1, by exact ⟨by omega, by omega, fun j h4 h3 => (Nat.lt_succ_iff_lt_or_eq.1 h3).elim (hj j h4) (fun e => e ▸ h2)⟩, by first | omega | (dsimp only at *; omega), Weak.kp⟩
 intro h
 have h : i = s.length := by simp at h; omega
 subst h
 refine Trip.exit ?_
 rw [findB_none hj]
 refine Trip.sr tblOk ?_
 refine Trip.ret (rt1 [])
end Go.Proofs.Tryz
namespace Go.Proofs.Tryz
open Go Go.Sym Go.Graft
set_option maxRecDepth 20000
theorem cNamed2 (s : Str) (hs : s.length ≤ 1000000000000) : Ctr prog 160 [sV s] [] (bV (namOk s)) [] [] := by
 refine Ctr.enter tblOk func160 rfl (by decide) rfl (nt := 47) rfl rfl rfl rfl ?_
 refine Trip.sr tblOk ?_
 refine Trip.seq (Trip.sR tblOk (by repeat' (first | exact rfl | (apply Rule.under tblOk; intro hγ; with_reducible apply Rule.index) | ((with_reducible refine Side.mk ?_); first | omega | exact fun h => h | exact fun _ h => congrArg Bool.not h | exact fun _ => hγ | (have h2 := hγ; simp only [gpick, cond_true, cond_false, decide_eq_true_eq, Bool.and_eq_true, Bool.or_eq_true, Bool.not_eq_true', Bool.not_eq_false', Bool.or_eq_false_iff, decide_eq_false_iff_not, List.length_map] at h2; (try simp only [List.length_map]); omega)) | constructor)) ?_)
 apply Trip.cond (.tmp rfl)
 ·intro h
  have h : namBad s = true := h
  rw [namOk_bad h]
  refine Trip.sr tblOk ?_
  refine Trip.ret (rt1 [] (hc := by repeat' (exact cvB (by simp only [List.length_map]))))
 intro h
 have hb : namBad s = false := h
 refine Trip.skip (Trip.seq (Trip.sr tblOk ?_))
 refine Trip.block ?_
 refine Trip.loop (fun (i : Nat) => ⟨[(0, sV s), (3, iV i)], []⟩) (fun (i : Nat) => i ≤ s.length ∧ ∀ j, j < i → namC (s.getD j 0) = false) (fun (i : Nat) => s.length - i) (0) (by exact ⟨Nat.zero_le _, fun j hj => absurd hj (by omega)⟩) Weak.kp ?_
 intro i hi
 obtain ⟨hi, hj⟩ := hi
 refine Trip.seq (Trip.sr tblOk ?_)
 apply Trip.cond (.tmp rfl)
 ·intro h
  have h : i < s.length := by simp at h; omega
  refine Trip.skip (Trip.seq (Trip.block (Trip.sR tblOk (by repeat' (first | exact rfl | ((with_reducible refine Side.mk ?_); first | omega | exact fun h => h | exact fun _ h => congrArg Bool.not h) | constructor)) ?_)))
  apply Trip.cond (.tmp rfl)
  ·intro h2
   have h2 : namC (s.getD i 0) = true := h2
   rw [namOk_false h h2]
   refine Trip.sr tblOk ?_
   refine Trip.ret (rt1 [] (hc := by repeat' (exact cvB (by simp only [List.length_map]))))
  intro h2
  have h2 : namC (s.getD i 0) = false := h2
  refine Trip.skip (Trip.R tblOk (by repeat' (first | exact rfl | ((with_reducible refine Side.mk ?_); omega) | constructor)) ?_)
  exact ⟨i + 1, by exact ⟨by omega, fun j h3 => (Nat.lt_succ_iff_lt_or_eq.1 h3).elim (hj j) (fun e => e ▸ h2)⟩, by first | omega | (dsimp only at *; omega), Weak.kp⟩
 intro h
 have h : i = s.length := by simp at h; omega
 subst h
 refine Trip.exit ?_
 rw [namOk_true hb hj]
 refine Trip.sr tblOk ?_
 refine Trip.ret (rt1 [] (hc := by repeat' (exact cvB (by simp only [List.length_map]))))
theorem cNamed (s : Str) (hs : s.length ≤ 1000000000000) : Ctr prog 182 [sV s] [] (bV (namOk s)) [] [] := by
 refine Ctr.enter tblOk func182 rfl (by decide) rfl (nt := 47) rfl rfl rfl rfl ?_
 refine Trip.sr tblOk ?_
 refine Trip.seq (Trip.sR tblOk (by repeat' (first | exact rfl | (apply Rule.under tblOk; intro hγ; with_reducible apply Rule.index) | ((with_reducible refine Side.mk ?_); first | omega | exact fun h => h | exact fun _ h => congrArg Bool.not h | exact fun _ => hγ | (have h2 := hγ; simp only [gpick, cond_true, cond_false, decide_eq_true_eq, Bool.and_eq_true, Bool.or_eq_true, Bool.not_eq_true', Bool.not_eq_false', Bool.or_eq_false_iff, decide_eq_false_iff_not, List.length_map] at h2; (try simp only [List.length_map]); omega)) | constructor)) ?_)
 apply Trip.cond (.tmp rfl)
 ·intro h
  have h : namBad s = true := h
  rw [namOk_bad h]
  refine Trip.sr tblOk ?_
  refine Trip.ret (rt1 [] (hc := by repeat' (exact cvB (by simp only [List.length_map]))))
 intro h
 have hb : namBad s = false := h
 refine Trip.skip (Trip.seq (Trip.sr tblOk ?_))
 refine Trip.block ?_
 refine Trip.loop (fun (i : Nat) => ⟨[(0, sV s), (26, iV s.length), (27, iV i)], []⟩) (fun (i : Nat) => i ≤ s.length ∧ ∀ j, j < i → namC (s.getD j 0) = false) (fun (i : Nat) => s.length - i) (0) (by exact ⟨Nat.zero_le _, fun j hj => absurd hj (by omega)⟩) Weak.kp ?_
 intro i hi
 obtain ⟨hi, hj⟩ := hi
 refine Trip.sr tblOk ?_
 refine Trip.seq ?_
 apply Trip.cond (.tmp rfl)
 ·intro h
  have h : i < s.length := by simp at h; omega
  refine Trip.skip (Trip.seq (Trip.block (Trip.sr tblOk ?_)))
  refine Trip.sR tblOk (by repeat' (first | exact rfl | ((with_reducible refine Side.mk ?_); first | omega | exact fun h => h | exact fun _ h => congrArg Bool.not h) | constructor)) ?_
  apply Trip.cond (.tmp rfl)
  ·intro h2
   have h2 : namC (s.getD i 0) = true := h2
   rw [namOk_false h h2]
   refine Trip.sr tblOk ?_
   refine Trip.ret (rt1 [] (hc := by repeat' (exact cvB (by simp only [List.length_map]))))
  intro h2
  have h2 : namC (s.getD i 0) = false := h2
  refine Trip.skip (Trip.R tblOk (by repeat' (first | exact rfl | ((with_reducible refine Side.mk ?_); omega) | constructor)) ?_)
  exact ⟨i + 1, by exact ⟨by omega, fun j h3 => (Nat.lt_succ_iff_lt_or_eq.1 h3).elim (hj j) (fun e => e ▸ h2)⟩, by first | omega | (dsimp only at *; omega), Weak.kp⟩
 intro h
 have h : i = s.length := by simp at h; omega
 subst h
 refine Trip.exit ?_
 rw [namOk_true hb hj]
 refine Trip.sr tblOk ?_
 refine Trip.ret (rt1 [] (hc := by repeat' (exact cvB (by simp only [List.length_map]))))
end Go.Proofs.Tryz
namespace Go.Proofs.Tryz
open Go Go.Sym Go.Graft
set_option maxRecDepth 20000
theorem cPerson2 (n m : Str) (t z : Int) (hn : n.length ≤ 1000000000000) (hm : m.length ≤ 1000000000000) : Ctr prog 117 [perPV n m t z] [] (bV (perOk n m t z)) [] [] := by
 have c1 := cNamed2 n hn
 have c2 := cNamed2 m hm
 have e : perOk n m t z = (namOk n && namOk m && decide (0 ≤ t) && decide (t ≤ 1099511627776) && decide (-840 ≤ z) && decide (z ≤ 840)) := rfl
 rw [e]
 generalize namOk n = a at *
 generalize namOk m = b at *
 refine Ctr.enter tblOk func117 rfl (by decide) rfl (nt := 31) rfl rfl rfl rfl ?_
 refine Trip.sr tblOk ?_
 refine Trip.sR tblOk (by repeat' (first | exact rfl | (apply Rule.sem; intro hγ; with_reducible apply F_call0 (dst := some 5) (x := .func 160) (B := []) hγ (hspec := c1)) | (apply Rule.sem; intro hγ; with_reducible apply F_call0 (dst := some 9) (x := .func 160) (B := []) hγ (hspec := c2)) | ((with_reducible refine Side.mk ?_); first | exact .inl rfl | exact fun h => h | exact fun _ h => h) | constructor)) ?_
 refine Trip.ret (rt1 [] (hc := by repeat' (exact cvB (by simp only [List.length_map]))))
theorem cSomebody (n m : Str) (t z : Int) (hn : n.length ≤ 1000000000000) (hm : m.length ≤ 1000000000000) : Ctr prog 149 [perPV n m t z] [] (bV (perOk n m t z)) [] [] := by
 have c1 := cNamed n hn
 have c2 := cNamed m hm
 have e : perOk n m t z = (namOk n && namOk m && decide (0 ≤ t) && decide (t ≤ 1099511627776) && decide (-840 ≤ z) && decide (z ≤ 840)) := rfl
 rw [e]
 generalize namOk n = a at *
 generalize namOk m = b at *
 refine Ctr.enter tblOk func149 rfl (by decide) rfl (nt := 31) rfl rfl rfl rfl ?_
 refine Trip.sr tblOk ?_
 refine Trip.sR tblOk (by repeat' (first | exact rfl | (apply Rule.sem; intro hγ; with_reducible apply F_call0 (dst := some 5) (x := .func 182) (B := []) hγ (hspec := c1)) | (apply Rule.sem; intro hγ; with_reducible apply F_call0 (dst := some 9) (x := .func 182) (B := []) hγ (hspec := c2)) | ((with_reducible refine Side.mk ?_); first | exact .inl rfl | exact fun h => h | exact fun _ h => h) | constructor)) ?_
 refine Trip.ret (rt1 [] (hc := by repeat' (exact cvB (by simp only [List.length_map]))))
theorem cKey15 (m : Int) (n i : Str) (hn : n.length ≤ 1000000000000) : Ctr prog 155 [entPV m n i] [] (sV (keyE m n)) [] [] := by
 refine Ctr.enter tblOk func155 rfl (by decide) rfl (nt := 11) rfl rfl rfl rfl ?_
 refine Trip.sr tblOk ?_
 refine Trip.seq (Trip.sr tblOk ?_)
 apply Trip.cond (.tmp rfl)
 ·intro h
  have h : m = 4 := by simpa using h
  rw [keyE, if_pos h]
  refine Trip.sR tblOk (by repeat' (first | exact rfl | ((with_reducible refine Side.mk ?_); (simp only [ln]; first | done | omega)) | constructor)) ?_
  refine Trip.ret (rt1 [])
 intro h
 have h : ¬ m = 4 := by simpa using h
 rw [keyE, if_neg h]
 refine Trip.skip (Trip.sr tblOk ?_)
 refine Trip.ret (rt1 [])
theorem cKey (m : Int) (n i : Str) (hn : n.length ≤ 1000000000000) : Ctr prog 177 [entPV m n i] [] (sV (keyE m n)) [] [] := by
 refine Ctr.enter tblOk func177 rfl (by decide) rfl (nt := 11) rfl rfl rfl rfl ?_
 refine Trip.sr tblOk ?_
 refine Trip.seq (Trip.sr tblOk ?_)
 apply Trip.cond (.tmp rfl)
 ·intro h
  have h : m = 4 := by simpa using h
  rw [keyE, if_pos h]
  refine Trip.sR tblOk (by repeat' (first | exact rfl | ((with_reducible refine Side.mk ?_); (simp only [ln]; first | done | omega)) | constructor)) ?_
  refine Trip.ret (rt1 [])
 intro h
 have h : ¬ m = 4 := by simpa using h
 rw [keyE, if_neg h]
 refine Trip.skip (Trip.sr tblOk ?_)
 refine Trip.ret (rt1 [])
theorem cLess15 (m : Int) (n i : Str) (m' : Int) (n' i' : Str) (hn : n.length ≤ 1000000000000) (hn' : n'.length ≤ 1000000000000) : Ctr prog 113 [entPV m n i, entPV m' n' i'] [] (bV (Op.bytesLess (keyE m n) (keyE m' n'))) [] [] := by
 have c1 := cKey15 m n i hn
 have c2 := cKey15 m' n' i' hn'
 generalize keyE m n = a at *
 generalize keyE m' n' = b at *
 refine Ctr.enter tblOk func113 rfl (by decide) rfl (nt := 10) rfl rfl rfl rfl ?_
 refine Trip.sr tblOk ?_
 refine Trip.sD tblOk mixed (by repeat' (first | exact rfl | (apply Rule.sem; intro hγ; with_reducible apply F_call0 (dst := some 6) (x := .func 155) (B := []) hγ (hspec := c1)) | (apply Rule.sem; intro hγ; with_reducible apply F_call0 (dst := some 8) (x := .func 155) (B := []) hγ (hspec := c2)) | ((with_reducible refine Side.mk ?_); exact .inl rfl) | constructor)) ?_
 refine Trip.ret (rt1 [] (hc := by repeat' (exact cvB (by simp only [List.length_map]))))
theorem cLess (m : Int) (n i : Str) (m' : Int) (n' i' : Str) (hn : n.length ≤ 1000000000000) (hn' : n'.length ≤ 1000000000000) : Ctr prog 144 [entPV m n i, entPV m' n' i'] [] (bV (Op.bytesLess (keyE m n) (keyE m' n'))) [] [] := by
 have c1 := cKey m n i hn
 have c2 := cKey m' n' i' hn'
 generalize keyE m n = a at *
 generalize keyE m' n' = b at *
 refine Ctr.enter tblOk func144 rfl (by decide) rfl (nt := 10) rfl rfl rfl rfl ?_
 refine Trip.sr tblOk ?_
 refine Trip.sD tblOk mixed (by repeat' (first | exact rfl | (apply Rule.sem; intro hγ; with_reducible apply F_call0 (dst := some 6) (x := .func 177) (B := []) hγ (hspec := c1)) | (apply Rule.sem; intro hγ; with_reducible apply F_call0 (dst := some 8) (x := .func 177) (B := []) hγ (hspec := c2)) | ((with_reducible refine Side.mk ?_); exact .inl rfl) | constructor)) ?_
 refine Trip.ret (rt1 [] (hc := by repeat' (exact cvB (by simp only [List.length_map]))))
theorem cDig15 (m : Int) : Ctr prog 109 [iV m] [] (sV (modeD m)) [] [] := by
 refine Ctr.enter tblOk func109 rfl (by decide) rfl (nt := 9) rfl rfl rfl rfl ?_
 refine Trip.sr tblOk ?_
 refine Trip.seq (Trip.sr tblOk ?_)
 apply Trip.cond (.tmp rfl)
 ·intro h
  have h : m = 1 := by simpa using h
  subst h
  refine Trip.sr tblOk ?_
  refine Trip.ret (rt1 [])
 intro h1
 have h1 : ¬ m = 1 := by simpa using h1
 refine Trip.skip (Trip.seq (Trip.sr tblOk ?_))
 apply Trip.cond (.tmp rfl)
 ·intro h
  have h : m = 2 := by simpa using h
  subst h
  refine Trip.sr tblOk ?_
  refine Trip.ret (rt1 [])
 intro h2
 have h2 : ¬ m = 2 := by simpa using h2
 refine Trip.skip (Trip.seq (Trip.sr tblOk ?_))
 apply Trip.cond (.tmp rfl)
 ·intro h
  have h : m = 3 := by simpa using h
  subst h
  refine Trip.sr tblOk ?_
  refine Trip.ret (rt1 [])
 intro h3
 have h3 : ¬ m = 3 := by simpa using h3
 refine Trip.skip ?_
 rw [modeD, if_neg h1, if_neg h2, if_neg h3]
 refine Trip.sr tblOk ?_
 refine Trip.ret (rt1 [])
end Go.Proofs.Tryz
namespace Go.Proofs.Tryz
open Go Go.Sym Go.Graft
set_option maxRecDepth 20000
theorem cDigT (k : Int) : Ctr prog 141 [iV k] [] (sV (modeP k)) [] [] := by
 refine Ctr.enter tblOk func141 rfl (by decide) rfl (nt := 12) rfl rfl rfl rfl ?_
 refine Trip.sr tblOk ?_
 refine Trip.seq (Trip.sr tblOk ?_)
 refine Trip.block (Trip.sr tblOk ?_)
 apply Trip.cond (.tmp rfl)
 ·intro h
  have h : k = 1 := by simpa using h
  subst h
  refine Trip.sr tblOk ?_
  refine Trip.ret (rt1 [])
 intro h1
 have h1 : ¬ k = 1 := by simpa using h1
 refine Trip.sr tblOk ?_
 apply Trip.cond (.tmp rfl)
 ·intro h
  have h : k = 2 := by simpa using h
  subst h
  refine Trip.sr tblOk ?_
  refine Trip.ret (rt1 [])
 intro h2
 have h2 : ¬ k = 2 := by simpa using h2
 refine Trip.sr tblOk ?_
 apply Trip.cond (.tmp rfl)
 ·intro h
  have h : k = 3 := by simpa using h
  subst h
  refine Trip.sr tblOk ?_
  refine Trip.ret (rt1 [])
 intro h3
 have h3 : ¬ k = 3 := by simpa using h3
 refine Trip.sr tblOk ?_
 apply Trip.cond (.tmp rfl)
 ·intro h
  have h : k = 4 := by simpa using h
  subst h
  refine Trip.sr tblOk ?_
  refine Trip.ret (rt1 [])
 intro h4
 have h4 : ¬ k = 4 := by simpa using h4
 have e : modeP k = [] := by rw [modeP, if_neg h1, if_neg h2, if_neg h3, if_neg h4]
 rw [e]
 refine Trip.skip (Trip.sr tblOk ?_)
 refine Trip.ret (rt1 [])
theorem cZero (s : Str) (hs : s.length ≤ 1000000000000) : Ctr prog 118 [sV s] [] (bV (hasZ s)) [] [] := by
 refine Ctr.enter tblOk func118 rfl (by decide) rfl (nt := 14) rfl rfl rfl rfl ?_
 refine Trip.sr tblOk ?_
 refine Trip.seq (Trip.sr tblOk ?_)
 refine Trip.block ?_
 refine Trip.loop (fun (i : Nat) => ⟨[(0, sV s), (3, iV i)], []⟩) (fun (i : Nat) => i ≤ s.length ∧ ∀ j, j < i → zC (s.getD j 0) = false) (fun (i : Nat) => s.length - i) (0) (by exact ⟨Nat.zero_le _, fun j hj => absurd hj (by omega)⟩) Weak.kp ?_
 intro i hi
 obtain ⟨hi, hj⟩ := hi
 refine Trip.seq (Trip.sr tblOk ?_)
 apply Trip.cond (.tmp rfl)
 ·intro h
  have h : i < s.length := by simp at h; omega
  refine Trip.skip (Trip.seq (Trip.block (Trip.sR tblOk (by repeat' (first | exact rfl | ((with_reducible refine Side.mk ?_); omega) | constructor)) ?_)))
  apply Trip.cond (.tmp rfl)
  ·intro h2
   have h2 : zC (s.getD i 0) = true := h2
   rw [hasZ_true h h2]
   refine Trip.sr tblOk ?_
   refine Trip.ret (rt1 [] (hc := by repeat' (exact cvB (by simp only [List.length_map]))))
  intro h2
  have h2 : zC (s.getD i 0) = false := h2
  refine Trip.skip (Trip.R tblOk (by repeat' (first | exact rfl | ((with_reducible refine Side.mk ?_); omega) | constructor)) ?_)
  exact ⟨i + 1, by exact ⟨by omega, fun j h3 => (Nat.lt_succ_iff_lt_or_eq.1 h3).elim (hj j) (fun e => e ▸ h2)⟩, by first | omega | (dsimp only at *; omega), Weak.kp⟩
 intro h
 have h : i = s.length := by simp at h; omega
 subst h
 refine Trip.exit ?_
 rw [hasZ_false hj]
 refine Trip.sr tblOk ?_
 refine Trip.ret (rt1 [] (hc := by repeat' (exact cvB (by simp only [List.length_map]))))
theorem cHas06 (nl : Bool) (l : List Str) (x : Str) (hs : l.length ≤ 1000000000000) : Ctr prog 17 [.sl nl 1 (l.map sV), sV x] [] (bV (hasS l x)) [] [] := by
 refine Ctr.enter tblOk func17 rfl (by decide) rfl (nt := 18) rfl rfl rfl rfl ?_
 refine Trip.sr tblOk ?_
 refine Trip.seq (Trip.sr tblOk ?_)
 refine Trip.block ?_
 refine Trip.loop (fun (i : Nat) => ⟨[(0, .sl nl 1 (l.map sV)), (1, sV x), (5, iV i)], []⟩) (fun (i : Nat) => i ≤ l.length ∧ ∀ j, j < i → l[j]! ≠ x) (fun (i : Nat) => l.length - i) (0) (by exact ⟨Nat.zero_le _, fun j hj => absurd hj (by omega)⟩) Weak.kp ?_
 intro i hi
 obtain ⟨hi, hj⟩ := hi
 refine Trip.seq (Trip.sr tblOk ?_)
 apply Trip.cond (.tmp rfl)
 ·intro h
  have h : i < l.length := by simp at h; omega
  refine Trip.skip (Trip.seq (Trip.block (Trip.sR tblOk (by repeat' (first | exact rfl | exact idx_map _ _ _ (by show _ < _; first | omega | (simp only [List.length_map] at *; omega)) | ((with_reducible refine Side.mk ?_); (simp only [ln]; first | done | omega)) | constructor)) ?_)))
  apply Trip.cond (.tmp rfl)
  ·intro h2
   have h2 : l[i]! = x := by simpa using h2
   rw [hasS_true h h2]
   refine Trip.sr tblOk ?_
   refine Trip.ret (rt1 [] (hc := by repeat' (exact cvB (by simp only [List.length_map]))))
  intro h2
  have h2 : ¬ l[i]! = x := by simpa using h2
  refine Trip.skip (Trip.R tblOk (by repeat' (first | exact rfl | ((with_reducible refine Side.mk ?_); omega) | constructor)) ?_)
  exact ⟨i + 1, by exact ⟨by omega, fun j h3 => (Nat.lt_succ_iff_lt_or_eq.1 h3).elim (hj j) (fun e => e ▸ h2)⟩, by first | omega | (dsimp only at *; omega), Weak.kp⟩
 intro h
 have h : i = l.length := by simp at h; omega
 subst h
 refine Trip.exit ?_
 rw [hasS_false hj]
 refine Trip.sr tblOk ?_
 refine Trip.ret (rt1 [] (hc := by repeat' (exact cvB (by simp only [List.length_map]))))
end Go.Proofs.Tryz
namespace Go.Proofs.Tryz
open Go Go.Sym Go.Graft
set_option maxRecDepth 20000
end Go.Proofs.Tryz
namespace Go.Proofs.Tryz
open Go Go.Sym Go.Graft
set_option maxRecDepth 20000
end Go.Proofs.Tryz
namespace Go.Proofs.Tryz
open Go Go.Sym Go.Graft
set_option maxRecDepth 20000
theorem cPlace2 (nl : Bool) (l : List It) (x : Str) (hs : l.length ≤ 1000000000) : Ctr prog 37 [.sl nl 3 (l.map It.pv), sV x] [] (.tup [iV (place l x), bV (placed l x)]) [] [] := by
 have e : placed l x = (decide (((place l x : Nat) : Int) < (l.length : Int)) && decide (l[((place l x : Nat) : Int).toNat]!.id = x)) := rfl
 have e0 : place l x = hvAt (fun i => Op.bytesLess l[i]!.id x) 0 l.length := halve_eq _ _
 rw [e, e0]
 generalize hr : hvAt (fun i => Op.bytesLess l[i]!.id x) 0 l.length = r
 refine Ctr.enter tblOk func37 rfl (by decide) rfl (nt := 42) rfl rfl rfl rfl ?_
 refine Trip.sr tblOk ?_
 refine Trip.sr tblOk ?_
 refine Trip.seq (Trip.block ?_)
 refine Trip.loop (fun (i : Nat × Nat) => ⟨[(0, .sl nl 3 (l.map It.pv)), (1, sV x), (6, iV i.1), (7, iV i.2)], []⟩) (fun (i : Nat × Nat) => i.1 ≤ i.2 ∧ i.2 ≤ l.length ∧ hvAt (fun i => Op.bytesLess l[i]!.id x) i.1 i.2 = r) (fun (i : Nat × Nat) => i.2 - i.1) ((0, l.length)) (by exact ⟨Nat.zero_le _, Nat.le_refl _, hr⟩) (Weak.kp (ht := by repeat' (first | exact rfl | (refine vI ?_; first | omega | (simp; done) | (simp; omega) | (simp only [List.length_map] at *; omega)) | constructor))) ?_
 intro i hi
 obtain ⟨lo, hi2⟩ := i
 obtain ⟨h1, h2, h3⟩ := hi
 dsimp only at *
 refine Trip.seq (Trip.sr tblOk ?_)
 apply Trip.cond (.tmp rfl)
 ·intro h
  have h : lo < hi2 := by simp at h; omega
  rw [hvAt_lt _ _ _ h] at h3
  have em : ((lo : Int) + (hi2 : Int)) / 2 = (((lo + hi2) / 2 : Nat) : Int) := by omega
  have hm1 : lo ≤ (lo + hi2) / 2 := by omega
  have hm2 : (lo + hi2) / 2 < hi2 := by omega
  refine Trip.skip (Trip.block ?_)
  refine Trip.rk ⟨[(0, .sl nl 3 (l.map It.pv)), (1, sV x), (6, iV lo), (7, iV hi2), (8, iV (((lo + hi2) / 2 : Nat) : Int))], []⟩ tblOk (by repeat' (first | exact rfl | ((with_reducible refine Side.mk ?_); omega) | constructor)) Weak.kp ?_
  generalize (lo + hi2) / 2 = m at *
  refine Trip.sR tblOk (by repeat' (first | exact rfl | exact idx_map _ _ _ (by show _ < _; first | omega | (simp only [List.length_map] at *; omega)) | ((with_reducible refine Side.mk ?_); (simp only [ln]; first | done | omega)) | constructor)) ?_
  apply Trip.cond (.tmp rfl)
  ·intro h4
   have h4 : Op.bytesLess l[m]!.id x = true := by simpa using h4
   rw [if_pos h4] at h3
   refine Trip.R tblOk (by repeat' (first | exact rfl | ((with_reducible refine Side.mk ?_); omega) | constructor)) ?_
   exact ⟨(m + 1, hi2), by exact ⟨by omega, h2, h3⟩, by first | omega | (dsimp only at *; omega), Weak.kp⟩
  intro h4
  have h4 : ¬ Op.bytesLess l[m]!.id x = true := by
   have : Op.bytesLess l[m]!.id x = false := by simpa using h4
   rw [this]; simp
  rw [if_neg h4] at h3
  refine Trip.r tblOk ?_
  exact ⟨(lo, m), by exact ⟨by omega, by omega, h3⟩, by first | omega | (dsimp only at *; omega), Weak.kp⟩
 intro h
 have h : ¬ lo < hi2 := by simp at h; omega
 rw [hvAt_ge _ _ _ h] at h3
 subst h3
 refine Trip.exit (Trip.sD tblOk mixed (by repeat' (first | exact rfl | (apply Rule.under tblOk; intro hγ; with_reducible apply Rule.indexAddr) | exact idx_map _ _ _ (by have h2 := hγ; simp only [gpick, cond_true, cond_false, decide_eq_true_eq, Bool.and_eq_true, Bool.or_eq_true, Bool.not_eq_true', Bool.not_eq_false', Bool.or_eq_false_iff, decide_eq_false_iff_not, List.length_map] at h2; show _ < _; omega) | ((with_reducible refine Side.mk ?_); first | exact fun h => h | exact fun _ h => h | exact fun _ => hγ | (have h2 := hγ; simp only [gpick, cond_true, cond_false, decide_eq_true_eq, Bool.and_eq_true, Bool.or_eq_true, Bool.not_eq_true', Bool.not_eq_false', Bool.or_eq_false_iff, decide_eq_false_iff_not, List.length_map] at h2; (try simp only [List.length_map]); omega)) | constructor)) ?_)
 refine Trip.ret (rt2 [] (hd := by repeat' (exact cvB (by first | rfl | simp))))
end Go.Proofs.Tryz
namespace Go.Proofs.Tryz
open Go Go.Sym Go.Graft
set_option maxRecDepth 20000
end Go.Proofs.Tryz
namespace Go.Proofs.Tryz
open Go Go.Sym Go.Graft
set_option maxRecDepth 20000
theorem cPlaceFn (x : It) (id : Str) : Ctr prog 89 [x.pv, sV id] [] (iV (Lib.compareBytes x.id id)) [] [] := by
 have c := sCompare x.id id
 generalize Lib.compareBytes x.id id = r at *
 refine Ctr.enter tblOk func89 rfl (by decide) rfl (nt := 9) rfl rfl rfl rfl ?_
 refine Trip.sr tblOk ?_
 refine Trip.sR tblOk (by repeat' (first | exact rfl | (apply Rule.sem; intro hγ; with_reducible apply F_call0 (x := .func 90) (B := []) hγ (hspec := c)) | ((with_reducible refine Side.mk ?_); exact .inl rfl) | constructor)) ?_
 refine Trip.ret (rt1 [])
end Go.Proofs.Tryz
namespace Go.Proofs.Tryz
open Go Go.Sym Go.Graft
set_option maxRecDepth 20000
theorem cBSF (nl : Bool) (l : List It) (x : Str) (hs : l.length ≤ 1000000000) : Ctr prog 88 [.sl nl 3 (l.map It.pv), sV x, .clo (.func 89) [] []] [] (.tup [iV (place l x), bV (placed l x)]) [] [] := by
 have c := fun y => cPlaceFn y x
 have e : placed l x = (decide (((place l x : Nat) : Int) < (l.length : Int)) && decide (Lib.compareBytes l[((place l x : Nat) : Int).toNat]!.id x = 0)) := by
  have : decide (Lib.compareBytes l[((place l x : Nat) : Int).toNat]!.id x = 0) = decide (l[((place l x : Nat) : Int).toNat]!.id = x) := decide_eq_decide.2 (cmp_eq _ _).1
  rw [this]; rfl
 have e0 : place l x = hvAt (fun i => Op.bytesLess l[i]!.id x) 0 l.length := halve_eq _ _
 rw [e, e0]
 generalize hr : hvAt (fun i => Op.bytesLess l[i]!.id x) 0 l.length = r
 refine Ctr.enter tblOk func88 rfl (by decide) rfl (nt := 49) rfl rfl rfl rfl ?_
 refine Trip.sr tblOk ?_
 refine Trip.sr tblOk ?_
 refine Trip.sr tblOk ?_
 refine Trip.seq (Trip.block ?_)
 refine Trip.loop (fun (i : Nat × Nat) => ⟨[(0, .sl nl 3 (l.map It.pv)), (1, sV x), (2, .clo (.func 89) [] []), (8, iV l.length), (9, iV i.1), (10, iV i.2)], []⟩) (fun (i : Nat × Nat) => i.1 ≤ i.2 ∧ i.2 ≤ l.length ∧ hvAt (fun i => Op.bytesLess l[i]!.id x) i.1 i.2 = r) (fun (i : Nat × Nat) => i.2 - i.1) ((0, l.length)) (by exact ⟨Nat.zero_le _, Nat.le_refl _, hr⟩) (Weak.kp (ht := by repeat' (first | exact rfl | (refine vI ?_; first | omega | (simp; done) | (simp; omega) | (simp only [List.length_map] at *; omega)) | constructor))) ?_
 intro i hi
 obtain ⟨lo, hi2⟩ := i
 obtain ⟨h1, h2, h3⟩ := hi
 dsimp only at *
 refine Trip.seq (Trip.sr tblOk ?_)
 apply Trip.cond (.tmp rfl)
 ·intro h
  have h : lo < hi2 := by simp at h; omega
  rw [hvAt_lt _ _ _ h] at h3
  have em : IntKind.wrap .i64 (Int.fdiv (IntKind.wrap .u64 ((lo : Int) + (hi2 : Int))) (2 ^ min (1 : Int).toNat (IntKind.bits .u64))) = (((lo + hi2) / 2 : Nat) : Int) := by
   have e1 : IntKind.wrap .u64 ((lo : Int) + (hi2 : Int)) = ((lo + hi2 : Nat) : Int) := by simp [IntKind.wrap, IntKind.bits, IntKind.signed]; omega
   rw [e1]
   have e2 : Int.fdiv ((lo + hi2 : Nat) : Int) (2 ^ min (1 : Int).toNat (IntKind.bits .u64)) = (((lo + hi2) / 2 : Nat) : Int) := by
    rw [Int.fdiv_eq_ediv_of_nonneg _ (by decide)]; show ((lo + hi2 : Nat) : Int) / 2 = _; omega
   rw [e2]; simp [IntKind.wrap, IntKind.bits, IntKind.signed]; omega
  have hm1 : lo ≤ (lo + hi2) / 2 := by omega
  have hm2 : (lo + hi2) / 2 < hi2 := by omega
  refine Trip.skip (Trip.block ?_)
  refine Trip.rk ⟨[(0, .sl nl 3 (l.map It.pv)), (1, sV x), (2, .clo (.func 89) [] []), (8, iV l.length), (9, iV lo), (10, iV hi2), (11, iV (((lo + hi2) / 2 : Nat) : Int))], []⟩ tblOk (by repeat' (first | exact rfl | ((with_reducible refine Side.mk ?_); omega) | constructor)) (Weak.kp (ht := by repeat' (first | exact rfl | (refine vI ?_; exact em) | constructor))) ?_
  generalize (lo + hi2) / 2 = m at *
  refine Trip.sR tblOk (by repeat' (first | exact rfl | (apply Rule.sem; intro hγ; with_reducible apply F_call0 (x := .tmp 24) (B := []) hγ (hspec := (c _))) | exact convL_plain (by assumption) | exact idx_map _ _ _ (by show _ < _; first | omega | (simp only [List.length_map] at *; omega)) | ((with_reducible refine Side.mk ?_); first | exact .inl rfl | (simp only [ln]; first | done | omega)) | constructor)) ?_
  apply Trip.cond (.tmp rfl)
  ·intro h4
   have h4 : Op.bytesLess l[m]!.id x = true := (cmp_eq _ _).2.1 (by simpa using h4)
   rw [if_pos h4] at h3
   refine Trip.R tblOk (by repeat' (first | exact rfl | ((with_reducible refine Side.mk ?_); omega) | constructor)) ?_
   exact ⟨(m + 1, hi2), by exact ⟨by omega, h2, h3⟩, by first | omega | (dsimp only at *; omega), Weak.kp⟩
  intro h4
  have h4 : ¬ Op.bytesLess l[m]!.id x = true := fun h5 => by
   have := (cmp_eq _ _).2.2 h5
   have h6 : ¬ Lib.compareBytes l[m]!.id x < 0 := by simpa using h4
   exact h6 this
  rw [if_neg h4] at h3
  refine Trip.r tblOk ?_
  exact ⟨(lo, m), by exact ⟨by omega, by omega, h3⟩, by first | omega | (dsimp only at *; omega), Weak.kp⟩
 intro h
 have h : ¬ lo < hi2 := by simp at h; omega
 rw [hvAt_ge _ _ _ h] at h3
 subst h3
 refine Trip.exit (Trip.sR tblOk (by repeat' (first | exact rfl | (apply Rule.under tblOk; intro hγ; with_reducible apply Rule.indexAddr) | exact idx_map _ _ _ (by have h2 := hγ; simp only [gpick, cond_true, cond_false, decide_eq_true_eq, Bool.and_eq_true, Bool.or_eq_true, Bool.not_eq_true', Bool.not_eq_false', Bool.or_eq_false_iff, decide_eq_false_iff_not, List.length_map] at h2; show _ < _; omega) | (apply Rule.sem; intro hγ; with_reducible apply F_call0 (x := .tmp 40) (B := []) hγ (hspec := (c _))) | ((with_reducible refine Side.mk ?_); first | exact .inl rfl | exact fun h => h | exact fun _ h => h | exact fun _ => hγ | (have h2 := hγ; simp only [gpick, cond_true, cond_false, decide_eq_true_eq, Bool.and_eq_true, Bool.or_eq_true, Bool.not_eq_true', Bool.not_eq_false', Bool.or_eq_false_iff, decide_eq_false_iff_not, List.length_map] at h2; (try simp only [List.length_map]); omega)) | constructor)) ?_)
 refine Trip.ret (rt2 [] (hd := by repeat' (exact cvB (by first | rfl | simp))))
end Go.Proofs.Tryz
