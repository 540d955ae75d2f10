/- A part of the proof: Gm, Gn, GPath, Gp, GFind, Gq, GNam, Gr, GPer, Gt, GMsc. -/
import Derived.Test.YtbnnmnbidkpmcaaGreatDoorPart25
import Derived.Lib.Strings
set_option linter.unusedVariables false
set_option linter.unusedSimpArgs false
namespace Go.Proofs.Tryz
open Go Go.Sym Go.Graft
set_option maxRecDepth 20000
theorem decLen (n : Nat) : n ≤ 1048576 → (Lib.decDigits n).length ≤ 7 := by
 intro h
 have key : ∀ (d n : Nat), n < 10 ^ (d + 1) → (Lib.decDigits n).length ≤ d + 1 := by
  intro d
  induction d with
  | zero => intro n hn; rw [Lib.decDigits, dif_pos (by simpa using hn)]; simp
  | succ d ih =>
   intro n hn
   rw [Lib.decDigits]
   split
   ·simp
   ·have := ih (n / 10) (by rw [Nat.pow_succ] at hn; omega)
    simp; omega
 exact key 6 n (by omega)
theorem cBytes2 (k : Int) (b : Str) : Ctr prog 48 [objPV k b] [] (.tup [sV (objBytes k b), iV (objErr k b)]) [] [] := by
 have c0 := cCheck14 k b
 have c1 := cWord2 k
 have hw := wordK_len k
 have hb : objErr k b = 0 → b.length ≤ 1048576 := by
  unfold objErr
  split
  ·intro h; cases h
  ·split
   ·intro h; cases h
   ·intro _; omega
 have e : objText k b = wordK k ++ [32] ++ Lib.decDigits b.length ++ [0] ++ b := by rw [objText, itoa_nat]
 have e2 : objBytes k b = if objErr k b = 0 then objText k b else [] := rfl
 rw [e2, e]
 generalize wordK k = w at *
 generalize objErr k b = er at *
 refine Ctr.enter tblOk func48 rfl (by decide) rfl (nt := 23) rfl rfl rfl rfl ?_
 refine Trip.sr tblOk ?_
 refine Trip.seq (Trip.sR tblOk (by repeat' (first | exact rfl | (apply Rule.sem; intro hγ; with_reducible apply F_call0 (x := .func 80) (B := []) hγ (hspec := c0)) | ((with_reducible refine Side.mk ?_); exact .inl rfl) | constructor)) ?_)
 refine Trip.sr tblOk ?_
 apply Trip.cond (.tmp rfl)
 ·intro h
  have h : ¬ er = 0 := by simpa using h
  rw [if_neg h]
  refine Trip.sr tblOk ?_
  refine Trip.ret (rt2 [])
 intro h
 have h : er = 0 := by simpa using h
 subst h
 have hb := hb rfl
 have c2 := cDigits14 b.length (by omega)
 have hdl := decLen b.length hb
 rw [if_pos rfl]
 generalize Lib.decDigits b.length = dd at *
 refine Trip.skip (Trip.sD tblOk mixed (by repeat' (first | exact rfl | (apply Rule.sem; intro hγ; with_reducible apply F_call0 (x := .func 81) (B := []) hγ (hspec := c1)) | (apply Rule.sem; intro hγ; with_reducible apply F_call0 (x := .func 82) (B := []) hγ (hspec := c2)) | ((with_reducible refine Side.mk ?_); first | exact .inl rfl | (simp only [ln]; first | done | omega)) | constructor)) ?_)
 refine Trip.ret (rt2 [])
theorem cId2 (k : Int) (b : Str) : Ctr prog 16 [objPV k b] [] (sV (objId k b)) [] [] := by
 have c0 := cBytes2 k b
 have e2 : objBytes k b = if objErr k b = 0 then objText k b else [] := rfl
 have e3 : objId k b = if objErr k b = 0 then idOf (objText k b) else [] := rfl
 have hl : objErr k b = 0 → (objText k b).length ≤ 1000000000 := by
  intro h
  have hb : b.length ≤ 1048576 := by
   unfold objErr at h
   split at h
   ·cases h
   ·split at h
    ·cases h
    ·omega
  have := wordK_len k
  have := decLen b.length hb
  simp only [objText, itoa_nat, List.length_append, List.length_cons, List.length_nil]
  omega
 rw [e3]
 rw [e2] at c0
 have c1 := fun h => cOf2 (objText k b) (hl h)
 generalize objErr k b = er at *
 generalize objText k b = tx at *
 refine Ctr.enter tblOk func16 rfl (by decide) rfl (nt := 14) rfl rfl rfl rfl ?_
 refine Trip.sr tblOk ?_
 refine Trip.sR tblOk (by repeat' (first | exact rfl | (apply Rule.sem; intro hγ; with_reducible apply F_call0 (x := .func 48) (B := []) hγ (hspec := c0)) | ((with_reducible refine Side.mk ?_); exact .inl rfl) | constructor)) ?_
 refine Trip.seq (Trip.sr tblOk ?_)
 apply Trip.cond (.tmp rfl)
 ·intro h
  have h : ¬ er = 0 := by simpa using h
  simp only [if_neg h]
  refine Trip.sr tblOk ?_
  refine Trip.ret (rt1 [])
 intro h
 have h : er = 0 := by simpa using h
 subst h
 have c1 := c1 rfl
 refine Trip.skip ?_
 simp only [if_true]
 generalize idOf tx = d at *
 refine Trip.sR tblOk (by repeat' (first | exact rfl | (apply Rule.sem; intro hγ; with_reducible apply F_call0 (x := .func 49) (B := []) hγ (hspec := c1)) | ((with_reducible refine Side.mk ?_); exact .inl rfl) | constructor)) ?_
 refine Trip.ret (rt1 [])
end Go.Proofs.Tryz
namespace Go.Proofs.Tryz
open Go Go.Sym Go.Graft
set_option maxRecDepth 20000
theorem objErr_len {k : Int} {b : Str} (h : objErr k b = 0) : b.length ≤ 1048576 := by
 unfold objErr at h
 split at h
 ·cases h
 ·split at h
  ·cases h
  ·omega
theorem objText_len {k : Int} {b : Str} (h : objErr k b = 0) : (objText k b).length ≤ 1000000000 := by
 have hb := objErr_len h
 have := wordK_len k
 have := decLen b.length hb
 simp only [objText, itoa_nat, List.length_append, List.length_cons, List.length_nil]
 omega
theorem cBytes (k : Int) (b : Str) : Ctr prog 69 [objPV k b] [] (.tup [sV (objBytes k b), iV (objErr k b)]) [] [] := by
 have c1 := cWord k
 have hw := wordK_len k
 have c2 := fun (h : b.length ≤ 1048576) => sItoa (b.length : Int) (by omega) (by omega)
 have e : objText k b = wordK k ++ [32] ++ Lib.itoa b.length ++ [0] ++ b := rfl
 have e2 : objBytes k b = if objErr k b = 0 then objText k b else [] := rfl
 have e3 : objErr k b = if wordK k = [] then 140 else if (1048576 : Int) < b.length then 4 else 0 := rfl
 have hdl := decLen b.length
 rw [← itoa_nat] at hdl
 rw [e2, e, e3]
 generalize wordK k = w at *
 generalize Lib.itoa (b.length : Int) = dd at *
 refine Ctr.enter tblOk func69 rfl (by decide) rfl (nt := 27) rfl rfl rfl rfl ?_
 refine Trip.sr tblOk ?_
 refine Trip.sR tblOk (by repeat' (first | exact rfl | (apply Rule.sem; intro hγ; with_reducible apply F_call0 (x := .func 107) (B := []) hγ (hspec := c1)) | ((with_reducible refine Side.mk ?_); exact .inl rfl) | constructor)) ?_
 refine Trip.seq (Trip.block (Trip.sr tblOk ?_))
 apply Trip.cond (.tmp rfl)
 ·intro h
  have h : w = [] := by simpa using h
  simp only [if_pos h]
  refine Trip.sr tblOk ?_
  refine Trip.ret (rt2 [])
 intro h
 have h : ¬ w = [] := by simpa using h
 simp only [if_neg h]
 refine Trip.sr tblOk ?_
 apply Trip.cond (.tmp rfl)
 ·intro h
  have h : (1048576 : Int) < b.length := by simpa using h
  simp only [if_pos h]
  refine Trip.sr tblOk ?_
  refine Trip.ret (rt2 [])
 intro h
 have h : ¬ (1048576 : Int) < b.length := by simpa using h
 have hdl := hdl (by omega)
 have c2 := c2 (by omega)
 simp only [if_neg h, if_true]
 refine Trip.skip (Trip.sD tblOk mixed (by repeat' (first | exact rfl | (apply Rule.sem; intro hγ; with_reducible apply F_call0 (x := .func 108) (B := []) hγ (hspec := c2)) | ((with_reducible refine Side.mk ?_); first | exact .inl rfl | (simp only [ln]; first | done | omega)) | constructor)) ?_)
 refine Trip.ret (rt2 [])
theorem cId (k : Int) (b : Str) : Ctr prog 41 [objPV k b] [] (sV (objId k b)) [] [] := by
 have c0 := cBytes k b
 have e2 : objBytes k b = if objErr k b = 0 then objText k b else [] := rfl
 have e3 : objId k b = if objErr k b = 0 then idOf (objText k b) else [] := rfl
 rw [e3]
 rw [e2] at c0
 have c1 := fun h => cOf (objText k b) (objText_len (k := k) (b := b) h)
 generalize objErr k b = er at *
 generalize objText k b = tx at *
 refine Ctr.enter tblOk func41 rfl (by decide) rfl (nt := 14) rfl rfl rfl rfl ?_
 refine Trip.sr tblOk ?_
 refine Trip.sR tblOk (by repeat' (first | exact rfl | (apply Rule.sem; intro hγ; with_reducible apply F_call0 (x := .func 69) (B := []) hγ (hspec := c0)) | ((with_reducible refine Side.mk ?_); exact .inl rfl) | constructor)) ?_
 refine Trip.seq (Trip.sr tblOk ?_)
 apply Trip.cond (.tmp rfl)
 ·intro h
  have h : ¬ er = 0 := by simpa using h
  simp only [if_neg h]
  refine Trip.sr tblOk ?_
  refine Trip.ret (rt1 [])
 intro h
 have h : er = 0 := by simpa using h
 subst h
 have c1 := c1 rfl
 refine Trip.skip ?_
 simp only [if_true]
 generalize idOf tx = d at *
 refine Trip.sR tblOk (by repeat' (first | exact rfl | (apply Rule.sem; intro hγ; with_reducible apply F_call0 (x := .func 73) (B := []) hγ (hspec := c1)) | ((with_reducible refine Side.mk ?_); exact .inl rfl) | constructor)) ?_
 refine Trip.ret (rt1 [])
end Go.Proofs.Tryz
namespace Go.Graft
def partBad (s : Str) : Bool := decide ((s.length : Int) < 1) || decide (64 < (s.length : Int)) || decide (s = [46]) || decide (s = [46, 46]) || decide (s = [46, 103, 114, 97, 102, 116])
def partOk (s : Str) : Bool := !partBad s && s.all fun c => decide (32 ≤ c.toNat)
def partOk2 (s : Str) : Bool := !partBad s && s.all fun c => decide (32 ≤ c.toNat) && !decide ((c.toNat : Int) = 47)
theorem partOk_bad {s : Str} (h : partBad s = true) : partOk s = false ∧ partOk2 s = false := by rw [partOk, partOk2, h]; exact ⟨rfl, rfl⟩
theorem partOk_false {s : Str} {i : Nat} (h : i < s.length) (hp : ¬ 32 ≤ (s.getD i 0).toNat) : partOk s = false := by
 rw [partOk, all_false h (decide_eq_false hp), Bool.and_false]
theorem partOk_true {s : Str} (hb : partBad s = false) (h : ∀ i, i < s.length → 32 ≤ (s.getD i 0).toNat) : partOk s = true := by
 rw [partOk, hb, all_true fun i hi => decide_eq_true (h i hi)]; rfl
theorem partOk2_false {s : Str} {i : Nat} (h : i < s.length) (hp : ¬ (32 ≤ (s.getD i 0).toNat ∧ ¬ ((s.getD i 0).toNat : Int) = 47)) : partOk2 s = false := by
 rw [partOk2, all_false (p := fun c => decide (32 ≤ c.toNat) && !decide ((c.toNat : Int) = 47)) h ?_, Bool.and_false]
 by_cases h1 : 32 ≤ (s.getD i 0).toNat
 ·have h2 : ((s.getD i 0).toNat : Int) = 47 := by
   by_cases h2 : ((s.getD i 0).toNat : Int) = 47
   ·exact h2
   ·exact absurd ⟨h1, h2⟩ hp
  rw [decide_eq_true h1, decide_eq_true h2]; rfl
 ·rw [decide_eq_false h1, Bool.false_and]
theorem partOk2_true {s : Str} (hb : partBad s = false) (h : ∀ i, i < s.length → 32 ≤ (s.getD i 0).toNat ∧ ¬ ((s.getD i 0).toNat : Int) = 47) : partOk2 s = true := by
 rw [partOk2, hb, all_true fun i hi => by rw [decide_eq_true (h i hi).1, decide_eq_false (h i hi).2]; rfl]; rfl
end Go.Graft
namespace Go.Proofs.Tryz
open Go Go.Sym Go.Graft
set_option maxRecDepth 20000
theorem cPart (s : Str) (hs : s.length ≤ 1000000000000) : Ctr prog 206 [sV s] [] (bV (partOk s)) [] [] := by
 have hpb : partBad s = (decide ((s.length : Int) < 1) || decide (64 < (s.length : Int)) || decide (s = [46]) || decide (s = [46, 46]) || decide (s = [46, 103, 114, 97, 102, 116])) := rfl
 refine Ctr.enter tblOk func206 rfl (by decide) rfl (nt := 34) rfl rfl rfl rfl ?_
 refine Trip.sr tblOk ?_
 refine Trip.seq (Trip.sR tblOk (by repeat' (first | exact rfl | ((with_reducible refine Side.mk ?_); first | exact fun h => h | exact fun _ h => congrArg Bool.not h) | constructor)) ?_)
 apply Trip.cond (.tmp rfl)
 ·intro h
  have h : partBad s = true := h
  rw [(partOk_bad h).1]
  refine Trip.sr tblOk ?_
  refine Trip.ret (rt1 [] (hc := by repeat' (exact cvB (by simp only [List.length_map]))))
 intro h
 have hb : partBad s = false := h
 refine Trip.skip (Trip.seq (Trip.sr tblOk ?_))
 refine Trip.block ?_
 refine Trip.loop (fun (i : Nat) => ⟨[(0, sV s), (25, iV s.length), (26, iV i)], []⟩) (fun (i : Nat) => i ≤ s.length ∧ ∀ j, j < i → 32 ≤ (s.getD j 0).toNat) (fun (i : Nat) => s.length - i) (0) (by exact ⟨Nat.zero_le _, fun j hj => absurd hj (by omega)⟩) Weak.kp ?_
 intro i hi
 obtain ⟨hi, hj⟩ := hi
 refine Trip.sr tblOk ?_
 refine Trip.seq ?_
 apply Trip.cond (.tmp rfl)
 ·intro h
  have h : i < s.length := by simp at h; omega
  refine Trip.skip (Trip.seq (Trip.block (Trip.sr tblOk ?_)))
  refine Trip.sR tblOk (by repeat' (first | exact rfl | ((with_reducible refine Side.mk ?_); omega) | constructor)) ?_
  apply Trip.cond (.tmp rfl)
  ·intro h2
   have h2 : ¬ 32 ≤ (s.getD i 0).toNat := by
    have : ((s.getD i 0).toNat : Int) < 32 := by simpa using h2
    omega
   rw [partOk_false h h2]
   refine Trip.sr tblOk ?_
   refine Trip.ret (rt1 [] (hc := by repeat' (exact cvB (by simp only [List.length_map]))))
  intro h2
  have h2 : 32 ≤ (s.getD i 0).toNat := by
   have : ¬ ((s.getD i 0).toNat : Int) < 32 := by simpa using h2
   omega
  refine Trip.skip (Trip.R tblOk (by repeat' (first | exact rfl | ((with_reducible refine Side.mk ?_); omega) | constructor)) ?_)
  exact ⟨i + 1, by exact ⟨by omega, fun j h3 => (Nat.lt_succ_iff_lt_or_eq.1 h3).elim (hj j) (fun e => e ▸ h2)⟩, by first | omega | (dsimp only at *; omega), Weak.kp⟩
 intro h
 have h : i = s.length := by simp at h; omega
 subst h
 refine Trip.exit ?_
 rw [partOk_true hb hj]
 refine Trip.sr tblOk ?_
 refine Trip.ret (rt1 [] (hc := by repeat' (exact cvB (by simp only [List.length_map]))))
theorem cPart2 (s : Str) (hs : s.length ≤ 1000000000000) : Ctr prog 190 [sV s] [] (bV (partOk2 s)) [] [] := by
 refine Ctr.enter tblOk func190 rfl (by decide) rfl (nt := 40) rfl rfl rfl rfl ?_
 refine Trip.sr tblOk ?_
 refine Trip.seq (Trip.sR tblOk (by repeat' (first | exact rfl | ((with_reducible refine Side.mk ?_); first | exact fun h => h | exact fun _ h => congrArg Bool.not h) | constructor)) ?_)
 apply Trip.cond (.tmp rfl)
 ·intro h
  have h : partBad s = true := h
  rw [(partOk_bad h).2]
  refine Trip.sr tblOk ?_
  refine Trip.ret (rt1 [] (hc := by repeat' (exact cvB (by simp only [List.length_map]))))
 intro h
 have hb : partBad s = false := h
 refine Trip.skip (Trip.seq (Trip.sr tblOk ?_))
 refine Trip.block ?_
 refine Trip.loop (fun (i : Nat) => ⟨[(0, sV s), (3, iV i)], []⟩) (fun (i : Nat) => i ≤ s.length ∧ ∀ j, j < i → 32 ≤ (s.getD j 0).toNat ∧ ¬ ((s.getD j 0).toNat : Int) = 47) (fun (i : Nat) => s.length - i) (0) (by exact ⟨Nat.zero_le _, fun j hj => absurd hj (by omega)⟩) Weak.kp ?_
 intro i hi
 obtain ⟨hi, hj⟩ := hi
 refine Trip.seq (Trip.sr tblOk ?_)
 apply Trip.cond (.tmp rfl)
 ·intro h
  have h : i < s.length := by simp at h; omega
  refine Trip.skip (Trip.seq (Trip.block (Trip.sR tblOk (by repeat' (first | exact rfl | ((with_reducible refine Side.mk ?_); first | omega | exact fun h => h | exact fun _ h => congrArg Bool.not h) | constructor)) ?_)))
  apply Trip.cond (.tmp rfl)
  ·intro h2
   have h2 : ¬ (32 ≤ (s.getD i 0).toNat ∧ ¬ ((s.getD i 0).toNat : Int) = 47) := by
    have : ((s.getD i 0).toNat : Int) < 32 ∨ ((s.getD i 0).toNat : Int) = 47 := by simpa using h2
    omega
   rw [partOk2_false h h2]
   refine Trip.sr tblOk ?_
   refine Trip.ret (rt1 [] (hc := by repeat' (exact cvB (by simp only [List.length_map]))))
  intro h2
  have h2 : 32 ≤ (s.getD i 0).toNat ∧ ¬ ((s.getD i 0).toNat : Int) = 47 := by
   have : ¬ (((s.getD i 0).toNat : Int) < 32 ∨ ((s.getD i 0).toNat : Int) = 47) := by simpa using h2
   omega
  refine Trip.skip (Trip.R tblOk (by repeat' (first | exact rfl | ((with_reducible refine Side.mk ?_); omega) | constructor)) ?_)
  exact ⟨i + 1, by exact ⟨by omega, fun j h3 => (Nat.lt_succ_iff_lt_or_eq.1 h3).elim (hj j) (fun e => e ▸ h2)⟩, by first | omega | (dsimp only at *; omega), Weak.kp⟩
 intro h
 have h : i = s.length := by simp at h; omega
 subst h
 refine Trip.exit ?_
 rw [partOk2_true hb hj]
 refine Trip.sr tblOk ?_
 refine Trip.ret (rt1 [] (hc := by repeat' (exact cvB (by simp only [List.length_map]))))
end Go.Proofs.Tryz
namespace Go.Graft
theorem indexByte_none : ∀ {l : Str} {c : UInt8}, (∀ j, j < l.length → l.getD j 0 ≠ c) → Lib.indexByte l c = -1
 | [], c, _ => rfl
 | b :: l, c, h => by
  have h0 : b ≠ c := by have := h 0 (by simp); simpa using this
  have ih := indexByte_none (l := l) (c := c) fun j hj => by have := h (j + 1) (by simp; omega); simpa using this
  rw [Lib.indexByte, if_neg (by simpa using h0), ih]; rfl
theorem indexByte_some : ∀ {l : Str} {c : UInt8} {k : Nat}, k < l.length → (∀ j, j < k → l.getD j 0 ≠ c) → l.getD k 0 = c → Lib.indexByte l c = (k : Int)
 | [], c, k, h, _, _ => by simp at h
 | b :: l, c, 0, _, _, h => by
  have : b = c := by simpa using h
  rw [Lib.indexByte, if_pos (by simpa using this)]; rfl
 | b :: l, c, k + 1, hk, hj, h => by
  have h0 : b ≠ c := by have := hj 0 (by omega); simpa using this
  have ih := indexByte_some (l := l) (c := c) (k := k) (by simpa using hk) (fun j hj2 => by have := hj (j + 1) (by omega); simpa using this) (by simpa using h)
  rw [Lib.indexByte, if_neg (by simpa using h0), ih]
  have : ((k : Int) == -1) = false := by simp
  rw [this]; simp
def findB (s : Str) (c : UInt8) (a : Nat) : Int := if Lib.indexByte (s.drop a) c < 0 then -1 else a + Lib.indexByte (s.drop a) c
theorem getD_drop (s : Str) (a j : Nat) : (s.drop a).getD j 0 = s.getD (a + j) 0 := by
 simp [List.getD_eq_getElem?_getD, List.getElem?_drop]
theorem findB_none {s : Str} {c : UInt8} {a : Nat} (h : ∀ j, a ≤ j → j < s.length → s.getD j 0 ≠ c) : findB s c a = -1 := by
 rw [findB, indexByte_none (fun j hj => by rw [getD_drop]; exact h _ (by omega) (by rw [List.length_drop] at hj; omega))]; rfl
theorem findB_some {s : Str} {c : UInt8} {a i : Nat} (ha : a ≤ i) (hi : i < s.length) (h : ∀ j, a ≤ j → j < i → s.getD j 0 ≠ c) (hc : s.getD i 0 = c) : findB s c a = (i : Int) := by
 have := indexByte_some (l := s.drop a) (c := c) (k := i - a) (by rw [List.length_drop]; omega) (fun j hj => by rw [getD_drop]; exact h _ (by omega) (by omega)) (by rw [getD_drop, show a + (i - a) = i by omega]; exact hc)
 rw [findB, this, if_neg (by omega)]; omega
theorem u8_ne {a b : UInt8} (h : ¬ (a.toNat : Int) = (b.toNat : Int)) : a ≠ b := fun e => h (by rw [e])
theorem u8_eq {a b : UInt8} (h : (a.toNat : Int) = (b.toNat : Int)) : a = b := UInt8.toNat.inj (by omega)
end Go.Graft
namespace Go.Proofs.Tryz
open Go Go.Sym Go.Graft
set_option maxRecDepth 20000
theorem cFind14 (s : Str) (c : UInt8) (a : Nat) (hs : s.length ≤ 1000000000000) (ha : a ≤ s.length) : Ctr prog 130 [sV s, u8V c, iV a] [] (iV (findB s c a)) [] [] := by
 refine Ctr.enter tblOk func130 rfl (by decide) rfl (nt := 21) rfl rfl rfl rfl ?_
 refine Trip.sr tblOk ?_
 refine Trip.seq (Trip.sr tblOk ?_)
 refine Trip.block ?_
 refine Trip.loop (fun (i : Nat) => ⟨[(0, sV s), (1, u8V c), (7, iV i)], []⟩) (fun (i : Nat) => a ≤ i ∧ i ≤ s.length ∧ ∀ j, a ≤ j → j < i → s.getD j 0 ≠ c) (fun (i : Nat) => s.length - i) (a) (by exact ⟨Nat.le_refl _, ha, fun j hj hj2 => absurd hj (by omega)⟩) Weak.kp ?_
 intro i hi
 obtain ⟨hi0, hi, hj⟩ := hi
 refine Trip.seq (Trip.sr tblOk ?_)
 apply Trip.cond (.tmp rfl)
 ·intro h
  have h : i < s.length := by simp at h; omega
  refine Trip.skip (Trip.seq (Trip.block (Trip.sR tblOk (by repeat' (first | exact rfl | ((with_reducible refine Side.mk ?_); omega) | constructor)) ?_)))
  apply Trip.cond (.tmp rfl)
  ·intro h2
   have h2 : s.getD i 0 = c := u8_eq (by simpa using h2)
   rw [findB_some hi0 h hj h2]
   refine Trip.sr tblOk ?_
   refine Trip.ret (rt1 [])
  intro h2
  have h2 : s.getD i 0 ≠ c := u8_ne (by simpa using h2)
  refine Trip.skip (Trip.R tblOk (by repeat' (first | exact rfl | ((with_reducible refine Side.mk ?_); omega) | constructor)) ?_)
  exact ⟨i + 1, by exact ⟨by omega, by omega, fun j h4 h3 => (Nat.lt_succ_iff_lt_or_eq.1 h3).elim (hj j h4) (fun e => e ▸ h2)⟩, by first | omega | (dsimp only at *; omega), Weak.kp⟩
 intro h
 have h : i = s.length := by simp at h; omega
 subst h
 refine Trip.exit ?_
 rw [findB_none hj]
 refine Trip.sr tblOk ?_
 refine Trip.ret (rt1 [])
end Go.Proofs.Tryz
namespace Go.Graft
def namBad (s : Str) : Bool := decide ((s.length : Int) < 1) || decide (64 < (s.length : Int)) || decide (((s.getD 0 0).toNat : Int) = 32) || decide (((s.getD ((s.length : Int) - 1).toNat 0).toNat : Int) = 32)
def namC (c : UInt8) : Bool := decide ((c.toNat : Int) < 32) || decide ((c.toNat : Int) = 60) || decide ((c.toNat : Int) = 62)
def namOk (s : Str) : Bool := !namBad s && s.all fun c => !namC c
theorem namOk_bad {s : Str} (h : namBad s = true) : namOk s = false := by rw [namOk, h]; rfl
theorem namOk_false {s : Str} {i : Nat} (h : i < s.length) (hp : namC (s.getD i 0) = true) : namOk s = false := by
 rw [namOk, all_false (p := fun c => !namC c) h (by rw [hp]; rfl), Bool.and_false]
theorem namOk_true {s : Str} (hb : namBad s = false) (h : ∀ i, i < s.length → namC (s.getD i 0) = false) : namOk s = true := by
 rw [namOk, hb, all_true (p := fun c => !namC c) fun i hi => by rw [h i hi]; rfl]; rfl
end Go.Graft
namespace Go.Proofs.Tryz
open Go Go.Sym Go.Graft
set_option maxRecDepth 20000
theorem cNamed2 (s : Str) (hs : s.length ≤ 1000000000000) : Ctr prog 140 [sV s] [] (bV (namOk s)) [] [] := by
 refine Ctr.enter tblOk func140 rfl (by decide) rfl (nt := 47) rfl rfl rfl rfl ?_
 refine Trip.sr tblOk ?_
 refine Trip.seq (Trip.sR tblOk (by repeat' (first | exact rfl | (apply Rule.under tblOk; intro hγ; with_reducible apply Rule.index) | ((with_reducible refine Side.mk ?_); first | omega | exact fun h => h | exact fun _ h => congrArg Bool.not h | exact fun _ => hγ | (have h2 := hγ; simp only [gpick, cond_true, cond_false, decide_eq_true_eq, Bool.and_eq_true, Bool.or_eq_true, Bool.not_eq_true', Bool.not_eq_false', Bool.or_eq_false_iff, decide_eq_false_iff_not, List.length_map] at h2; (try simp only [List.length_map]); omega)) | constructor)) ?_)
 apply Trip.cond (.tmp rfl)
 ·intro h
  have h : namBad s = true := h
  rw [namOk_bad h]
  refine Trip.sr tblOk ?_
  refine Trip.ret (rt1 [] (hc := by repeat' (exact cvB (by simp only [List.length_map]))))
 intro h
 have hb : namBad s = false := h
 refine Trip.skip (Trip.seq (Trip.sr tblOk ?_))
 refine Trip.block ?_
 refine Trip.loop (fun (i : Nat) => ⟨[(0, sV s), (3, iV i)], []⟩) (fun (i : Nat) => i ≤ s.length ∧ ∀ j, j < i → namC (s.getD j 0) = false) (fun (i : Nat) => s.length - i) (0) (by exact ⟨Nat.zero_le _, fun j hj => absurd hj (by omega)⟩) Weak.kp ?_
 intro i hi
 obtain ⟨hi, hj⟩ := hi
 refine Trip.seq (Trip.sr tblOk ?_)
 apply Trip.cond (.tmp rfl)
 ·intro h
  have h : i < s.length := by simp at h; omega
  refine Trip.skip (Trip.seq (Trip.block (Trip.sR tblOk (by repeat' (first | exact rfl | ((with_reducible refine Side.mk ?_); first | omega | exact fun h => h | exact fun _ h => congrArg Bool.not h) | constructor)) ?_)))
  apply Trip.cond (.tmp rfl)
  ·intro h2
   have h2 : namC (s.getD i 0) = true := h2
   rw [namOk_false h h2]
   refine Trip.sr tblOk ?_
   refine Trip.ret (rt1 [] (hc := by repeat' (exact cvB (by simp only [List.length_map]))))
  intro h2
  have h2 : namC (s.getD i 0) = false := h2
  refine Trip.skip (Trip.R tblOk (by repeat' (first | exact rfl | ((with_reducible refine Side.mk ?_); omega) | constructor)) ?_)
  exact ⟨i + 1, by exact ⟨by omega, fun j h3 => (Nat.lt_succ_iff_lt_or_eq.1 h3).elim (hj j) (fun e => e ▸ h2)⟩, by first | omega | (dsimp only at *; omega), Weak.kp⟩
 intro h
 have h : i = s.length := by simp at h; omega
 subst h
 refine Trip.exit ?_
 rw [namOk_true hb hj]
 refine Trip.sr tblOk ?_
 refine Trip.ret (rt1 [] (hc := by repeat' (exact cvB (by simp only [List.length_map]))))
theorem cNamed (s : Str) (hs : s.length ≤ 1000000000000) : Ctr prog 186 [sV s] [] (bV (namOk s)) [] [] := by
 refine Ctr.enter tblOk func186 rfl (by decide) rfl (nt := 47) rfl rfl rfl rfl ?_
 refine Trip.sr tblOk ?_
 refine Trip.seq (Trip.sR tblOk (by repeat' (first | exact rfl | (apply Rule.under tblOk; intro hγ; with_reducible apply Rule.index) | ((with_reducible refine Side.mk ?_); first | omega | exact fun h => h | exact fun _ h => congrArg Bool.not h | exact fun _ => hγ | (have h2 := hγ; simp only [gpick, cond_true, cond_false, decide_eq_true_eq, Bool.and_eq_true, Bool.or_eq_true, Bool.not_eq_true', Bool.not_eq_false', Bool.or_eq_false_iff, decide_eq_false_iff_not, List.length_map] at h2; (try simp only [List.length_map]); omega)) | constructor)) ?_)
 apply Trip.cond (.tmp rfl)
 ·intro h
  have h : namBad s = true := h
  rw [namOk_bad h]
  refine Trip.sr tblOk ?_
  refine Trip.ret (rt1 [] (hc := by repeat' (exact cvB (by simp only [List.length_map]))))
 intro h
 have hb : namBad s = false := h
 refine Trip.skip (Trip.seq (Trip.sr tblOk ?_))
 refine Trip.block ?_
 refine Trip.loop (fun (i : Nat) => ⟨[(0, sV s), (26, iV s.length), (27, iV i)], []⟩) (fun (i : Nat) => i ≤ s.length ∧ ∀ j, j < i → namC (s.getD j 0) = false) (fun (i : Nat) => s.length - i) (0) (by exact ⟨Nat.zero_le _, fun j hj => absurd hj (by omega)⟩) Weak.kp ?_
 intro i hi
 obtain ⟨hi, hj⟩ := hi
 refine Trip.sr tblOk ?_
 refine Trip.seq ?_
 apply Trip.cond (.tmp rfl)
 ·intro h
  have h : i < s.length := by simp at h; omega
  refine Trip.skip (Trip.seq (Trip.block (Trip.sr tblOk ?_)))
  refine Trip.sR tblOk (by repeat' (first | exact rfl | ((with_reducible refine Side.mk ?_); first | omega | exact fun h => h | exact fun _ h => congrArg Bool.not h) | constructor)) ?_
  apply Trip.cond (.tmp rfl)
  ·intro h2
   have h2 : namC (s.getD i 0) = true := h2
   rw [namOk_false h h2]
   refine Trip.sr tblOk ?_
   refine Trip.ret (rt1 [] (hc := by repeat' (exact cvB (by simp only [List.length_map]))))
  intro h2
  have h2 : namC (s.getD i 0) = false := h2
  refine Trip.skip (Trip.R tblOk (by repeat' (first | exact rfl | ((with_reducible refine Side.mk ?_); omega) | constructor)) ?_)
  exact ⟨i + 1, by exact ⟨by omega, fun j h3 => (Nat.lt_succ_iff_lt_or_eq.1 h3).elim (hj j) (fun e => e ▸ h2)⟩, by first | omega | (dsimp only at *; omega), Weak.kp⟩
 intro h
 have h : i = s.length := by simp at h; omega
 subst h
 refine Trip.exit ?_
 rw [namOk_true hb hj]
 refine Trip.sr tblOk ?_
 refine Trip.ret (rt1 [] (hc := by repeat' (exact cvB (by simp only [List.length_map]))))
end Go.Proofs.Tryz
namespace Go.Graft
open Go.Sym
structure Per where
 name : Str
 mail : Str
 time : Int
 zone : Int
@[reducible] def perPV (n m : Str) (t z : Int) : PV := .agg [sV n, sV m, iV t, iV z]
def perOk (n m : Str) (t z : Int) : Bool := namOk n && namOk m && decide (0 ≤ t) && decide (t ≤ 1099511627776) && decide (-840 ≤ z) && decide (z ≤ 840)
@[reducible] def entPV (m : Int) (n i : Str) : PV := .agg [iV m, sV n, sV i]
def keyE (m : Int) (n : Str) : Str := if m = 4 then n ++ [47] else n
def modeD (m : Int) : Str := if m = 1 then [49, 48, 48, 54, 52, 52, 32] else if m = 2 then [49, 48, 48, 55, 53, 53, 32] else if m = 3 then [49, 50, 48, 48, 48, 48, 32] else [52, 48, 48, 48, 48, 32]
end Go.Graft
namespace Go.Proofs.Tryz
open Go Go.Sym Go.Graft
set_option maxRecDepth 20000
theorem cPerson2 (n m : Str) (t z : Int) (hn : n.length ≤ 1000000000000) (hm : m.length ≤ 1000000000000) : Ctr prog 104 [perPV n m t z] [] (bV (perOk n m t z)) [] [] := by
 have c1 := cNamed2 n hn
 have c2 := cNamed2 m hm
 have e : perOk n m t z = (namOk n && namOk m && decide (0 ≤ t) && decide (t ≤ 1099511627776) && decide (-840 ≤ z) && decide (z ≤ 840)) := rfl
 rw [e]
 generalize namOk n = a at *
 generalize namOk m = b at *
 refine Ctr.enter tblOk func104 rfl (by decide) rfl (nt := 31) rfl rfl rfl rfl ?_
 refine Trip.sr tblOk ?_
 refine Trip.sR tblOk (by repeat' (first | exact rfl | (apply Rule.sem; intro hγ; with_reducible apply F_call0 (dst := some 5) (x := .func 140) (B := []) hγ (hspec := c1)) | (apply Rule.sem; intro hγ; with_reducible apply F_call0 (dst := some 9) (x := .func 140) (B := []) hγ (hspec := c2)) | ((with_reducible refine Side.mk ?_); first | exact .inl rfl | exact fun h => h | exact fun _ h => h) | constructor)) ?_
 refine Trip.ret (rt1 [] (hc := by repeat' (exact cvB (by simp only [List.length_map]))))
theorem cSomebody (n m : Str) (t z : Int) (hn : n.length ≤ 1000000000000) (hm : m.length ≤ 1000000000000) : Ctr prog 152 [perPV n m t z] [] (bV (perOk n m t z)) [] [] := by
 have c1 := cNamed n hn
 have c2 := cNamed m hm
 have e : perOk n m t z = (namOk n && namOk m && decide (0 ≤ t) && decide (t ≤ 1099511627776) && decide (-840 ≤ z) && decide (z ≤ 840)) := rfl
 rw [e]
 generalize namOk n = a at *
 generalize namOk m = b at *
 refine Ctr.enter tblOk func152 rfl (by decide) rfl (nt := 31) rfl rfl rfl rfl ?_
 refine Trip.sr tblOk ?_
 refine Trip.sR tblOk (by repeat' (first | exact rfl | (apply Rule.sem; intro hγ; with_reducible apply F_call0 (dst := some 5) (x := .func 186) (B := []) hγ (hspec := c1)) | (apply Rule.sem; intro hγ; with_reducible apply F_call0 (dst := some 9) (x := .func 186) (B := []) hγ (hspec := c2)) | ((with_reducible refine Side.mk ?_); first | exact .inl rfl | exact fun h => h | exact fun _ h => h) | constructor)) ?_
 refine Trip.ret (rt1 [] (hc := by repeat' (exact cvB (by simp only [List.length_map]))))
theorem cKey15 (m : Int) (n i : Str) (hn : n.length ≤ 1000000000000) : Ctr prog 161 [entPV m n i] [] (sV (keyE m n)) [] [] := by
 refine Ctr.enter tblOk func161 rfl (by decide) rfl (nt := 11) rfl rfl rfl rfl ?_
 refine Trip.sr tblOk ?_
 refine Trip.seq (Trip.sr tblOk ?_)
 apply Trip.cond (.tmp rfl)
 ·intro h
  have h : m = 4 := by simpa using h
  rw [keyE, if_pos h]
  refine Trip.sR tblOk (by repeat' (first | exact rfl | ((with_reducible refine Side.mk ?_); (simp only [ln]; first | done | omega)) | constructor)) ?_
  refine Trip.ret (rt1 [])
 intro h
 have h : ¬ m = 4 := by simpa using h
 rw [keyE, if_neg h]
 refine Trip.skip (Trip.sr tblOk ?_)
 refine Trip.ret (rt1 [])
theorem cKey (m : Int) (n i : Str) (hn : n.length ≤ 1000000000000) : Ctr prog 181 [entPV m n i] [] (sV (keyE m n)) [] [] := by
 refine Ctr.enter tblOk func181 rfl (by decide) rfl (nt := 11) rfl rfl rfl rfl ?_
 refine Trip.sr tblOk ?_
 refine Trip.seq (Trip.sr tblOk ?_)
 apply Trip.cond (.tmp rfl)
 ·intro h
  have h : m = 4 := by simpa using h
  rw [keyE, if_pos h]
  refine Trip.sR tblOk (by repeat' (first | exact rfl | ((with_reducible refine Side.mk ?_); (simp only [ln]; first | done | omega)) | constructor)) ?_
  refine Trip.ret (rt1 [])
 intro h
 have h : ¬ m = 4 := by simpa using h
 rw [keyE, if_neg h]
 refine Trip.skip (Trip.sr tblOk ?_)
 refine Trip.ret (rt1 [])
theorem cLess15 (m : Int) (n i : Str) (m' : Int) (n' i' : Str) (hn : n.length ≤ 1000000000000) (hn' : n'.length ≤ 1000000000000) : Ctr prog 132 [entPV m n i, entPV m' n' i'] [] (bV (Op.bytesLess (keyE m n) (keyE m' n'))) [] [] := by
 have c1 := cKey15 m n i hn
 have c2 := cKey15 m' n' i' hn'
 generalize keyE m n = a at *
 generalize keyE m' n' = b at *
 refine Ctr.enter tblOk func132 rfl (by decide) rfl (nt := 10) rfl rfl rfl rfl ?_
 refine Trip.sr tblOk ?_
 refine Trip.sD tblOk mixed (by repeat' (first | exact rfl | (apply Rule.sem; intro hγ; with_reducible apply F_call0 (dst := some 6) (x := .func 161) (B := []) hγ (hspec := c1)) | (apply Rule.sem; intro hγ; with_reducible apply F_call0 (dst := some 8) (x := .func 161) (B := []) hγ (hspec := c2)) | ((with_reducible refine Side.mk ?_); exact .inl rfl) | constructor)) ?_
 refine Trip.ret (rt1 [] (hc := by repeat' (exact cvB (by simp only [List.length_map]))))
theorem cLess (m : Int) (n i : Str) (m' : Int) (n' i' : Str) (hn : n.length ≤ 1000000000000) (hn' : n'.length ≤ 1000000000000) : Ctr prog 147 [entPV m n i, entPV m' n' i'] [] (bV (Op.bytesLess (keyE m n) (keyE m' n'))) [] [] := by
 have c1 := cKey m n i hn
 have c2 := cKey m' n' i' hn'
 generalize keyE m n = a at *
 generalize keyE m' n' = b at *
 refine Ctr.enter tblOk func147 rfl (by decide) rfl (nt := 10) rfl rfl rfl rfl ?_
 refine Trip.sr tblOk ?_
 refine Trip.sD tblOk mixed (by repeat' (first | exact rfl | (apply Rule.sem; intro hγ; with_reducible apply F_call0 (dst := some 6) (x := .func 181) (B := []) hγ (hspec := c1)) | (apply Rule.sem; intro hγ; with_reducible apply F_call0 (dst := some 8) (x := .func 181) (B := []) hγ (hspec := c2)) | ((with_reducible refine Side.mk ?_); exact .inl rfl) | constructor)) ?_
 refine Trip.ret (rt1 [] (hc := by repeat' (exact cvB (by simp only [List.length_map]))))
theorem cDig15 (m : Int) : Ctr prog 129 [iV m] [] (sV (modeD m)) [] [] := by
 refine Ctr.enter tblOk func129 rfl (by decide) rfl (nt := 9) rfl rfl rfl rfl ?_
 refine Trip.sr tblOk ?_
 refine Trip.seq (Trip.sr tblOk ?_)
 apply Trip.cond (.tmp rfl)
 ·intro h
  have h : m = 1 := by simpa using h
  subst h
  refine Trip.sr tblOk ?_
  refine Trip.ret (rt1 [])
 intro h1
 have h1 : ¬ m = 1 := by simpa using h1
 refine Trip.skip (Trip.seq (Trip.sr tblOk ?_))
 apply Trip.cond (.tmp rfl)
 ·intro h
  have h : m = 2 := by simpa using h
  subst h
  refine Trip.sr tblOk ?_
  refine Trip.ret (rt1 [])
 intro h2
 have h2 : ¬ m = 2 := by simpa using h2
 refine Trip.skip (Trip.seq (Trip.sr tblOk ?_))
 apply Trip.cond (.tmp rfl)
 ·intro h
  have h : m = 3 := by simpa using h
  subst h
  refine Trip.sr tblOk ?_
  refine Trip.ret (rt1 [])
 intro h3
 have h3 : ¬ m = 3 := by simpa using h3
 refine Trip.skip ?_
 rw [modeD, if_neg h1, if_neg h2, if_neg h3]
 refine Trip.sr tblOk ?_
 refine Trip.ret (rt1 [])
end Go.Proofs.Tryz
namespace Go.Graft
def modeP (m : Int) : Str := if m = 1 then [49, 48, 48, 54, 52, 52, 32] else if m = 2 then [49, 48, 48, 55, 53, 53, 32] else if m = 3 then [49, 50, 48, 48, 48, 48, 32] else if m = 4 then [52, 48, 48, 48, 48, 32] else []
def zC (c : UInt8) : Bool := decide ((c.toNat : Int) = 0)
def hasZ (s : Str) : Bool := !(s.all fun c => !zC c)
theorem hasZ_true {s : Str} {i : Nat} (h : i < s.length) (hp : zC (s.getD i 0) = true) : hasZ s = true := by
 rw [hasZ, all_false (p := fun c => !zC c) h (by rw [hp]; rfl)]; rfl
theorem hasZ_false {s : Str} (h : ∀ i, i < s.length → zC (s.getD i 0) = false) : hasZ s = false := by
 rw [hasZ, all_true (p := fun c => !zC c) fun i hi => by rw [h i hi]; rfl]; rfl
def hasS (l : List Str) (x : Str) : Bool := decide (x ∈ l)
theorem hasS_true {l : List Str} {i : Nat} {x : Str} (h : i < l.length) (hx : l[i]! = x) : hasS l x = true := by
 rw [hasS, decide_eq_true_eq, ← hx, getElem!_pos l i h]; exact List.getElem_mem h
theorem hasS_false {l : List Str} {x : Str} (h : ∀ i, i < l.length → l[i]! ≠ x) : hasS l x = false := by
 rw [hasS, decide_eq_false_iff_not]
 intro hm
 obtain ⟨i, hi, e⟩ := List.getElem_of_mem hm
 exact h i hi (by rw [getElem!_pos l i hi]; exact e)
end Go.Graft
