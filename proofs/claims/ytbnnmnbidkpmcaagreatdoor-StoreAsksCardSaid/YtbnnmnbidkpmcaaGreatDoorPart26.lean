/- A part of the proof: Gl, Gm, Gn, GPath, Gp, GFind. -/
import Derived.Test.YtbnnmnbidkpmcaaGreatDoorPart25
set_option linter.unusedVariables false
set_option linter.unusedSimpArgs false
namespace Go.Proofs.Tryz
open Go Go.Sym Go.Graft
set_option maxRecDepth 20000
theorem cWord (k : Int) : Ctr prog 107 [iV k] [] (sV (wordK k)) [] [] := by
  refine Ctr.enter tblOk func107 rfl (by decide) rfl (nt := 16) rfl rfl rfl rfl ?_
  refine Trip.seq ?_
  apply Trip.reg tblOk
  · repeat' constructor
  · exact rfl
  refine Trip.seq ?_
  refine Trip.seq ?_
  apply Trip.reg tblOk
  · repeat' (first | exact rfl | (apply Rule.sem; intro hγ; with_reducible apply F_call0 (x := .func 141) (B := []) hγ (hspec := cKinds)) | ((with_reducible refine Side.mk ?_); exact .inl rfl) | constructor)
  · exact rfl
  refine Trip.block ?_
  apply Trip.loop (fun (i : Nat) => ⟨[(0, iV k), (5, .agg kindsPV), (6, iV i)], []⟩) (fun (i : Nat) => i ≤ 4 ∧ ∀ j : Nat, j < i → (j : Int) + 1 ≠ k) (fun (i : Nat) => 4 - i) (0)
  · exact ⟨by omega, fun j hj => absurd hj (by omega)⟩
  · apply Weak.keep
    · exact rfl
    · repeat' (first | exact rfl | constructor)
    · repeat' constructor
    · exact rfl
    · repeat' constructor
  intro i hi
  obtain ⟨hi, hj⟩ := hi
  refine Trip.seq ?_
  apply Trip.reg tblOk
  · repeat' (first | exact rfl | constructor)
  · exact rfl
  refine Trip.seq ?_
  apply Trip.cond (.tmp rfl)
  · intro h
    have h : i < 4 := by simp at h; omega
    have hpart := kinds_part i h
    refine Trip.skip ?_
    refine Trip.seq ?_
    refine Trip.block ?_
    refine Trip.seq ?_
    apply Trip.reg tblOk
    · repeat' (first | exact rfl | (apply Rule.sem; intro hγ; with_reducible apply F_indexArr tblOk hγ) | exact hpart | ((with_reducible refine Side.mk ?_); omega) | constructor)
    · exact rfl
    refine Trip.seq ?_
    apply Trip.reg tblOk
    · repeat' (first | exact rfl | constructor)
    · exact rfl
    apply Trip.cond (.tmp rfl)
    · intro h2
      have h2 : (i : Int) + 1 = k := by simpa using h2
      rw [h2]
      refine Trip.seq ?_
      apply Trip.reg tblOk
      · repeat' (first | exact rfl | constructor)
      · exact rfl
      refine Trip.ret ?_
      apply Ret1 []
      · repeat' (first | exact rfl | constructor)
      · exact rfl
      · repeat' constructor
    intro h2
    have h2 : ¬ (i : Int) + 1 = k := by simpa using h2
    refine Trip.skip ?_
    apply Trip.reg tblOk
    · repeat' (first | exact rfl | ((with_reducible refine Side.mk ?_); omega) | constructor)
    · exact rfl
    refine ⟨i + 1, ?_, ?_, ?_⟩
    · exact ⟨by omega, fun j h3 => (Nat.lt_succ_iff_lt_or_eq.1 h3).elim (hj j) (fun e => e ▸ h2)⟩
    · first | omega | (dsimp only at *; omega)
    · apply Weak.keep
      · exact rfl
      · repeat' (first | exact rfl | constructor)
      · repeat' constructor
      · exact rfl
      · repeat' constructor
  intro h
  have h : i = 4 := by simp at h; omega
  subst h
  refine Trip.exit ?_
  rw [wordK_none k hj]
  refine Trip.seq ?_
  apply Trip.reg tblOk
  · repeat' constructor
  · exact rfl
  refine Trip.ret ?_
  apply Ret1 []
  · repeat' (first | exact rfl | constructor)
  · exact rfl
  · repeat' constructor
theorem cKind2 (w : Str) : Ctr prog 90 [sV w] [] (iV (kindW w)) [] [] := by
  refine Ctr.enter tblOk func90 rfl (by decide) rfl (nt := 13) rfl rfl rfl rfl ?_
  refine Trip.seq ?_
  apply Trip.reg tblOk
  · repeat' constructor
  · exact rfl
  refine Trip.seq ?_
  refine Trip.seq ?_
  apply Trip.reg tblOk
  · repeat' constructor
  · exact rfl
  refine Trip.block ?_
  apply Trip.loop (fun (k : Nat) => ⟨[(0, sV w), (3, iV k)], []⟩) (fun (k : Nat) => 1 ≤ k ∧ k ≤ 5 ∧ ∀ j : Nat, 1 ≤ j → j < k → wordK (j : Int) ≠ w) (fun (k : Nat) => 5 - k) (1)
  · exact ⟨by omega, by omega, fun j hj hj2 => absurd hj (by omega)⟩
  · apply Weak.keep
    · exact rfl
    · repeat' (first | exact rfl | constructor)
    · repeat' constructor
    · exact rfl
    · repeat' constructor
  intro k hk
  obtain ⟨hk1, hk2, hj⟩ := hk
  refine Trip.seq ?_
  refine Trip.seq ?_
  apply Trip.reg tblOk
  · repeat' (first | exact rfl | constructor)
  · exact rfl
  apply Trip.cond (.tmp rfl)
  · intro h
    have h : k ≤ 4 := by simp at h; omega
    obtain ⟨hkw, _⟩ := kindW_wordK k hk1 h
    have c := cWord2 (k : Int)
    generalize hw2 : wordK (k : Int) = w2 at *
    refine Trip.skip ?_
    refine Trip.seq ?_
    refine Trip.block ?_
    refine Trip.seq ?_
    apply Trip.reg tblOk
    · repeat' (first | exact rfl | (apply Rule.sem; intro hγ; with_reducible apply F_call0 (x := .func 81) (B := []) hγ (hspec := c)) | ((with_reducible refine Side.mk ?_); exact .inl rfl) | constructor)
    · exact rfl
    apply Trip.cond (.tmp rfl)
    · intro h2
      have h2 : w2 = w := by simpa using h2
      rw [← h2, hkw]
      refine Trip.seq ?_
      apply Trip.reg tblOk
      · repeat' (first | exact rfl | constructor)
      · exact rfl
      refine Trip.ret ?_
      apply Ret1 []
      · repeat' (first | exact rfl | constructor)
      · exact rfl
      · repeat' constructor
    intro h2
    have h2 : ¬ w2 = w := by simpa using h2
    refine Trip.skip ?_
    apply Trip.reg tblOk
    · repeat' (first | exact rfl | ((with_reducible refine Side.mk ?_); omega) | constructor)
    · exact rfl
    refine ⟨k + 1, ?_, ?_, ?_⟩
    · exact ⟨by omega, by omega, fun j h4 h3 => (Nat.lt_succ_iff_lt_or_eq.1 h3).elim (hj j h4) (fun e => by rw [e, hw2]; exact h2)⟩
    · first | omega | (dsimp only at *; omega)
    · apply Weak.keep
      · exact rfl
      · repeat' (first | exact rfl | constructor)
      · repeat' constructor
      · exact rfl
      · repeat' constructor
  intro h
  have h : k = 5 := by simp at h; omega
  subst h
  refine Trip.exit ?_
  rw [kindW_none w hj]
  refine Trip.seq ?_
  apply Trip.reg tblOk
  · repeat' constructor
  · exact rfl
  refine Trip.ret ?_
  apply Ret1 []
  · repeat' (first | exact rfl | constructor)
  · exact rfl
  · repeat' constructor
theorem cDigits14 (n : Nat) (hn : n ≤ 1000000000000) : Ctr prog 82 [iV n] [] (sV (Lib.decDigits n)) [] [] := by
  refine Ctr.enter tblOk func82 rfl (by decide) rfl (nt := 32) rfl rfl rfl rfl ?_
  refine Trip.seq ?_
  apply Trip.reg tblOk
  · repeat' constructor
  · exact rfl
  refine Trip.seq ?_
  apply Trip.reg tblOk
  · repeat' constructor
  · exact rfl
  refine Trip.seq ?_
  refine Trip.seq ?_
  apply Trip.reg tblOk
  · repeat' (first | exact rfl | constructor)
  · exact rfl
  refine Trip.block ?_
  apply Trip.loop (fun (i : Nat × Str) => ⟨[(0, iV n), (3, sV i.2), (4, iV i.1)], []⟩) (fun (i : Nat × Str) => i.2.length + i.1 ≤ n + 1 ∧ (i.2 = [] → i.1 = n) ∧ (i.2 ≠ [] → (if i.1 = 0 then i.2 else Lib.decDigits i.1 ++ i.2) = Lib.decDigits n)) (fun (i : Nat × Str) => 2 * i.1 + (if i.2 = [] then 1 else 0)) ((n, []))
  · exact ⟨by simp, fun _ => rfl, fun h => absurd rfl h⟩
  · apply Weak.keep
    · exact rfl
    · repeat' (first | exact rfl | constructor)
    · repeat' constructor
    · exact rfl
    · repeat' constructor
  intro i hi
  obtain ⟨k, t⟩ := i
  obtain ⟨hi1, hi2, hi3⟩ := hi
  dsimp only at *
  refine Trip.seq ?_
  refine Trip.seq ?_
  apply Trip.reg tblOk
  · repeat' (first | exact rfl | ((with_reducible refine Side.mk ?_); first | exact fun h => h | exact fun _ h => congrArg Bool.not h) | constructor)
  · exact rfl
  apply Trip.cond (.tmp rfl)
  · intro h
    have h : k ≠ 0 ∨ t = [] := by
      by_cases hk : k = 0
      · subst hk; right; simpa using h
      · exact .inl hk
    have hne : (if UInt8.ofNat (48 + k % 10) :: t = [] then 1 else 0) = (0 : Nat) := if_neg (by simp)
    have e1 := dig_val k
    have e0 := dig_max k
    have hst := dec_step k t
    have hm : (UInt8.ofNat (48 + k % 10) :: t).length + k / 10 ≤ n + 1 := by
      simp only [List.length_cons]
      rcases h with h | h
      · omega
      · rw [h] at hi1 ⊢; simp at hi1 ⊢; omega
    have hfin : (if k / 10 = 0 then UInt8.ofNat (48 + k % 10) :: t else Lib.decDigits (k / 10) ++ UInt8.ofNat (48 + k % 10) :: t) = Lib.decDigits n := by
      rw [hst]
      by_cases ht : t = []
      · rw [ht, hi2 ht, List.append_nil]
      · have := hi3 ht
        rcases h with h | h
        · rw [if_neg h] at this; exact this
        · exact absurd h ht
    have hmu : 2 * (k / 10) + 0 < 2 * k + (if t = [] then 1 else 0) := by
      rcases h with h | h
      · omega
      · rw [if_pos h]; omega
    refine Trip.skip ?_
    refine Trip.seqk ⟨[(0, iV n), (3, sV (UInt8.ofNat (48 + k % 10) :: t)), (4, iV k)], []⟩ ?_ ?_
    · refine Trip.block ?_
      apply Trip.regk ⟨[(0, iV n), (3, sV t), (4, iV k), (5, iV ((k % 10 : Nat) : Int))], []⟩ tblOk
      · repeat' (first | exact rfl | ((with_reducible refine Side.mk ?_); omega) | constructor)
      · exact rfl
      · apply Weak.keep
        · exact rfl
        · repeat' (first | exact rfl | constructor)
        · repeat' constructor
        · exact rfl
        · repeat' constructor
      apply Trip.reg tblOk
      · repeat' (first | exact rfl | (apply Rule.sem; intro hγ; with_reducible apply F_max hγ) | (apply Rule.sem; intro hγ; with_reducible apply F_bytesToString (dst := some 24) (l := ([UInt8.ofNat (48 + k % 10)])) tblOk hγ) | ((with_reducible refine Side.mk ?_); first | omega | (simp only [ln]; first | done | omega) | exact congrArg (fun z : Int => [PV.v (.int .u8 z)]) e1) | constructor)
      · exact rfl
      apply Weak.keep
      · exact rfl
      · repeat' (first | exact rfl | constructor)
      · repeat' constructor
      · exact rfl
      · repeat' constructor
    apply Trip.reg tblOk
    · repeat' (first | exact rfl | ((with_reducible refine Side.mk ?_); omega) | constructor)
    · exact rfl
    refine ⟨(k / 10, UInt8.ofNat (48 + k % 10) :: t), ?_, ?_, ?_⟩
    · exact ⟨hm, fun h => absurd h (by simp), fun _ => hfin⟩
    · first | omega | (dsimp only at *; omega)
    · apply Weak.keep
      · exact rfl
      · repeat' (first | exact rfl | constructor)
      · repeat' constructor
      · exact rfl
      · repeat' constructor
  intro h
  have h : k = 0 ∧ t ≠ [] := by
    by_cases hk : k = 0
    · subst hk; exact ⟨rfl, by simpa using h⟩
    · exfalso; simp [hk] at h
  have hd := hi3 h.2
  rw [if_pos h.1] at hd
  rw [← hd]
  refine Trip.exit ?_
  refine Trip.seq ?_
  refine Trip.seq ?_
  apply Trip.reg tblOk
  · repeat' (first | exact rfl | constructor)
  · exact rfl
  apply Trip.cond (.tmp rfl)
  · intro h2
    exfalso
    simp at h2
    omega
  intro h2
  refine Trip.skip ?_
  refine Trip.seq ?_
  apply Trip.reg tblOk
  · repeat' (first | exact rfl | constructor)
  · exact rfl
  refine Trip.ret ?_
  apply Ret1 []
  · repeat' (first | exact rfl | constructor)
  · exact rfl
  · repeat' constructor
end Go.Proofs.Tryz
namespace Go.Proofs.Tryz
open Go Go.Sym Go.Graft
set_option maxRecDepth 20000
theorem decLen (n : Nat) : n ≤ 1048576 → (Lib.decDigits n).length ≤ 7 := by
  intro h
  have key : ∀ (d n : Nat), n < 10 ^ (d + 1) → (Lib.decDigits n).length ≤ d + 1 := by
    intro d
    induction d with
    | zero => intro n hn; rw [Lib.decDigits, dif_pos (by simpa using hn)]; simp
    | succ d ih =>
      intro n hn
      rw [Lib.decDigits]
      split
      · simp
      · have := ih (n / 10) (by rw [Nat.pow_succ] at hn; omega)
        simp; omega
  exact key 6 n (by omega)
theorem cBytes2 (k : Int) (b : Str) : Ctr prog 48 [objPV k b] [] (.tup [sV (objBytes k b), iV (objErr k b)]) [] [] := by
  have c0 := cCheck14 k b
  have c1 := cWord2 k
  have hw := wordK_len k
  have hb : objErr k b = 0 → b.length ≤ 1048576 := by
    unfold objErr
    split
    · intro h; cases h
    · split
      · intro h; cases h
      · intro _; omega
  have e : objText k b = wordK k ++ [32] ++ Lib.decDigits b.length ++ [0] ++ b := by rw [objText, itoa_nat]
  have e2 : objBytes k b = if objErr k b = 0 then objText k b else [] := rfl
  rw [e2, e]
  generalize wordK k = w at *
  generalize objErr k b = er at *
  refine Ctr.enter tblOk func48 rfl (by decide) rfl (nt := 23) rfl rfl rfl rfl ?_
  refine Trip.seq ?_
  apply Trip.reg tblOk
  · repeat' (first | exact rfl | constructor)
  · exact rfl
  refine Trip.seq ?_
  refine Trip.seq ?_
  apply Trip.reg tblOk
  · repeat' (first | exact rfl | (apply Rule.sem; intro hγ; with_reducible apply F_call0 (x := .func 80) (B := []) hγ (hspec := c0)) | ((with_reducible refine Side.mk ?_); exact .inl rfl) | constructor)
  · exact rfl
  refine Trip.seq ?_
  apply Trip.reg tblOk
  · repeat' (first | exact rfl | constructor)
  · exact rfl
  apply Trip.cond (.tmp rfl)
  · intro h
    have h : ¬ er = 0 := by simpa using h
    rw [if_neg h]
    refine Trip.seq ?_
    apply Trip.reg tblOk
    · repeat' (first | exact rfl | constructor)
    · exact rfl
    refine Trip.ret ?_
    apply Ret2 []
    · repeat' (first | exact rfl | constructor)
    · exact rfl
    · repeat' constructor
    · repeat' constructor
  intro h
  have h : er = 0 := by simpa using h
  subst h
  have hb := hb rfl
  have c2 := cDigits14 b.length (by omega)
  have hdl := decLen b.length hb
  rw [if_pos rfl]
  generalize Lib.decDigits b.length = dd at *
  refine Trip.skip ?_
  refine Trip.seq ?_
  apply Trip.drw tblOk mixed
  · repeat' (first | exact rfl | (apply Rule.sem; intro hγ; with_reducible apply F_call0 (x := .func 81) (B := []) hγ (hspec := c1)) | (apply Rule.sem; intro hγ; with_reducible apply F_call0 (x := .func 82) (B := []) hγ (hspec := c2)) | ((with_reducible refine Side.mk ?_); first | exact .inl rfl | (simp only [ln]; first | done | omega)) | constructor)
  · exact rfl
  · kernel_rfl
  refine Trip.ret ?_
  apply Ret2 []
  · repeat' (first | exact rfl | constructor)
  · exact rfl
  · repeat' constructor
  · repeat' constructor
theorem cId2 (k : Int) (b : Str) : Ctr prog 16 [objPV k b] [] (sV (objId k b)) [] [] := by
  have c0 := cBytes2 k b
  have e2 : objBytes k b = if objErr k b = 0 then objText k b else [] := rfl
  have e3 : objId k b = if objErr k b = 0 then idOf (objText k b) else [] := rfl
  have hl : objErr k b = 0 → (objText k b).length ≤ 1000000000 := by
    intro h
    have hb : b.length ≤ 1048576 := by
      unfold objErr at h
      split at h
      · cases h
      · split at h
        · cases h
        · omega
    have := wordK_len k
    have := decLen b.length hb
    simp only [objText, itoa_nat, List.length_append, List.length_cons, List.length_nil]
    omega
  rw [e3]
  rw [e2] at c0
  have c1 := fun h => cOf2 (objText k b) (hl h)
  generalize objErr k b = er at *
  generalize objText k b = tx at *
  refine Ctr.enter tblOk func16 rfl (by decide) rfl (nt := 14) rfl rfl rfl rfl ?_
  refine Trip.seq ?_
  apply Trip.reg tblOk
  · repeat' (first | exact rfl | constructor)
  · exact rfl
  refine Trip.seq ?_
  apply Trip.reg tblOk
  · repeat' (first | exact rfl | (apply Rule.sem; intro hγ; with_reducible apply F_call0 (x := .func 48) (B := []) hγ (hspec := c0)) | ((with_reducible refine Side.mk ?_); exact .inl rfl) | constructor)
  · exact rfl
  refine Trip.seq ?_
  refine Trip.seq ?_
  apply Trip.reg tblOk
  · repeat' (first | exact rfl | constructor)
  · exact rfl
  apply Trip.cond (.tmp rfl)
  · intro h
    have h : ¬ er = 0 := by simpa using h
    simp only [if_neg h]
    refine Trip.seq ?_
    apply Trip.reg tblOk
    · repeat' constructor
    · exact rfl
    refine Trip.ret ?_
    apply Ret1 []
    · repeat' (first | exact rfl | constructor)
    · exact rfl
    · repeat' constructor
  intro h
  have h : er = 0 := by simpa using h
  subst h
  have c1 := c1 rfl
  refine Trip.skip ?_
  simp only [if_true]
  generalize idOf tx = d at *
  refine Trip.seq ?_
  apply Trip.reg tblOk
  · repeat' (first | exact rfl | (apply Rule.sem; intro hγ; with_reducible apply F_call0 (x := .func 49) (B := []) hγ (hspec := c1)) | ((with_reducible refine Side.mk ?_); exact .inl rfl) | constructor)
  · exact rfl
  refine Trip.ret ?_
  apply Ret1 []
  · repeat' (first | exact rfl | constructor)
  · exact rfl
  · repeat' constructor
end Go.Proofs.Tryz
namespace Go.Proofs.Tryz
open Go Go.Sym Go.Graft
set_option maxRecDepth 20000
theorem objErr_len {k : Int} {b : Str} (h : objErr k b = 0) : b.length ≤ 1048576 := by
  unfold objErr at h
  split at h
  · cases h
  · split at h
    · cases h
    · omega
theorem objText_len {k : Int} {b : Str} (h : objErr k b = 0) : (objText k b).length ≤ 1000000000 := by
  have hb := objErr_len h
  have := wordK_len k
  have := decLen b.length hb
  simp only [objText, itoa_nat, List.length_append, List.length_cons, List.length_nil]
  omega
theorem cBytes (k : Int) (b : Str) : Ctr prog 69 [objPV k b] [] (.tup [sV (objBytes k b), iV (objErr k b)]) [] [] := by
  have c1 := cWord k
  have hw := wordK_len k
  have c2 := fun (h : b.length ≤ 1048576) => sItoa (b.length : Int) (by omega) (by omega)
  have e : objText k b = wordK k ++ [32] ++ Lib.itoa b.length ++ [0] ++ b := rfl
  have e2 : objBytes k b = if objErr k b = 0 then objText k b else [] := rfl
  have e3 : objErr k b = if wordK k = [] then 140 else if (1048576 : Int) < b.length then 4 else 0 := rfl
  have hdl := decLen b.length
  rw [← itoa_nat] at hdl
  rw [e2, e, e3]
  generalize wordK k = w at *
  generalize Lib.itoa (b.length : Int) = dd at *
  refine Ctr.enter tblOk func69 rfl (by decide) rfl (nt := 27) rfl rfl rfl rfl ?_
  refine Trip.seq ?_
  apply Trip.reg tblOk
  · repeat' (first | exact rfl | constructor)
  · exact rfl
  refine Trip.seq ?_
  apply Trip.reg tblOk
  · repeat' (first | exact rfl | (apply Rule.sem; intro hγ; with_reducible apply F_call0 (x := .func 107) (B := []) hγ (hspec := c1)) | ((with_reducible refine Side.mk ?_); exact .inl rfl) | constructor)
  · exact rfl
  refine Trip.seq ?_
  refine Trip.block ?_
  refine Trip.seq ?_
  apply Trip.reg tblOk
  · repeat' (first | exact rfl | constructor)
  · exact rfl
  apply Trip.cond (.tmp rfl)
  · intro h
    have h : w = [] := by simpa using h
    simp only [if_pos h]
    refine Trip.seq ?_
    apply Trip.reg tblOk
    · repeat' constructor
    · exact rfl
    refine Trip.ret ?_
    apply Ret2 []
    · repeat' (first | exact rfl | constructor)
    · exact rfl
    · repeat' constructor
    · repeat' constructor
  intro h
  have h : ¬ w = [] := by simpa using h
  simp only [if_neg h]
  refine Trip.seq ?_
  apply Trip.reg tblOk
  · repeat' (first | exact rfl | constructor)
  · exact rfl
  apply Trip.cond (.tmp rfl)
  · intro h
    have h : (1048576 : Int) < b.length := by simpa using h
    simp only [if_pos h]
    refine Trip.seq ?_
    apply Trip.reg tblOk
    · repeat' constructor
    · exact rfl
    refine Trip.ret ?_
    apply Ret2 []
    · repeat' (first | exact rfl | constructor)
    · exact rfl
    · repeat' constructor
    · repeat' constructor
  intro h
  have h : ¬ (1048576 : Int) < b.length := by simpa using h
  have hdl := hdl (by omega)
  have c2 := c2 (by omega)
  simp only [if_neg h, if_true]
  refine Trip.skip ?_
  refine Trip.seq ?_
  apply Trip.drw tblOk mixed
  · repeat' (first | exact rfl | (apply Rule.sem; intro hγ; with_reducible apply F_call0 (x := .func 108) (B := []) hγ (hspec := c2)) | ((with_reducible refine Side.mk ?_); first | exact .inl rfl | (simp only [ln]; first | done | omega)) | constructor)
  · exact rfl
  · kernel_rfl
  refine Trip.ret ?_
  apply Ret2 []
  · repeat' (first | exact rfl | constructor)
  · exact rfl
  · repeat' constructor
  · repeat' constructor
theorem cId (k : Int) (b : Str) : Ctr prog 41 [objPV k b] [] (sV (objId k b)) [] [] := by
  have c0 := cBytes k b
  have e2 : objBytes k b = if objErr k b = 0 then objText k b else [] := rfl
  have e3 : objId k b = if objErr k b = 0 then idOf (objText k b) else [] := rfl
  rw [e3]
  rw [e2] at c0
  have c1 := fun h => cOf (objText k b) (objText_len (k := k) (b := b) h)
  generalize objErr k b = er at *
  generalize objText k b = tx at *
  refine Ctr.enter tblOk func41 rfl (by decide) rfl (nt := 14) rfl rfl rfl rfl ?_
  refine Trip.seq ?_
  apply Trip.reg tblOk
  · repeat' (first | exact rfl | constructor)
  · exact rfl
  refine Trip.seq ?_
  apply Trip.reg tblOk
  · repeat' (first | exact rfl | (apply Rule.sem; intro hγ; with_reducible apply F_call0 (x := .func 69) (B := []) hγ (hspec := c0)) | ((with_reducible refine Side.mk ?_); exact .inl rfl) | constructor)
  · exact rfl
  refine Trip.seq ?_
  refine Trip.seq ?_
  apply Trip.reg tblOk
  · repeat' (first | exact rfl | constructor)
  · exact rfl
  apply Trip.cond (.tmp rfl)
  · intro h
    have h : ¬ er = 0 := by simpa using h
    simp only [if_neg h]
    refine Trip.seq ?_
    apply Trip.reg tblOk
    · repeat' constructor
    · exact rfl
    refine Trip.ret ?_
    apply Ret1 []
    · repeat' (first | exact rfl | constructor)
    · exact rfl
    · repeat' constructor
  intro h
  have h : er = 0 := by simpa using h
  subst h
  have c1 := c1 rfl
  refine Trip.skip ?_
  simp only [if_true]
  generalize idOf tx = d at *
  refine Trip.seq ?_
  apply Trip.reg tblOk
  · repeat' (first | exact rfl | (apply Rule.sem; intro hγ; with_reducible apply F_call0 (x := .func 73) (B := []) hγ (hspec := c1)) | ((with_reducible refine Side.mk ?_); exact .inl rfl) | constructor)
  · exact rfl
  refine Trip.ret ?_
  apply Ret1 []
  · repeat' (first | exact rfl | constructor)
  · exact rfl
  · repeat' constructor
end Go.Proofs.Tryz
namespace Go.Graft
def partBad (s : Str) : Bool := decide ((s.length : Int) < 1) || decide (64 < (s.length : Int)) || decide (s = [46]) || decide (s = [46, 46]) || decide (s = [46, 103, 114, 97, 102, 116])
def partOk (s : Str) : Bool := !partBad s && s.all fun c => decide (32 ≤ c.toNat)
def partOk2 (s : Str) : Bool := !partBad s && s.all fun c => decide (32 ≤ c.toNat) && !decide ((c.toNat : Int) = 47)
theorem partOk_bad {s : Str} (h : partBad s = true) : partOk s = false ∧ partOk2 s = false := by rw [partOk, partOk2, h]; exact ⟨rfl, rfl⟩
theorem partOk_false {s : Str} {i : Nat} (h : i < s.length) (hp : ¬ 32 ≤ (s.getD i 0).toNat) : partOk s = false := by
  rw [partOk, all_false h (decide_eq_false hp), Bool.and_false]
theorem partOk_true {s : Str} (hb : partBad s = false) (h : ∀ i, i < s.length → 32 ≤ (s.getD i 0).toNat) : partOk s = true := by
  rw [partOk, hb, all_true fun i hi => decide_eq_true (h i hi)]; rfl
theorem partOk2_false {s : Str} {i : Nat} (h : i < s.length) (hp : ¬ (32 ≤ (s.getD i 0).toNat ∧ ¬ ((s.getD i 0).toNat : Int) = 47)) : partOk2 s = false := by
  rw [partOk2, all_false (p := fun c => decide (32 ≤ c.toNat) && !decide ((c.toNat : Int) = 47)) h ?_, Bool.and_false]
  by_cases h1 : 32 ≤ (s.getD i 0).toNat
  · have h2 : ((s.getD i 0).toNat : Int) = 47 := by
      by_cases h2 : ((s.getD i 0).toNat : Int) = 47
      · exact h2
      · exact absurd ⟨h1, h2⟩ hp
    rw [decide_eq_true h1, decide_eq_true h2]; rfl
  · rw [decide_eq_false h1, Bool.false_and]
theorem partOk2_true {s : Str} (hb : partBad s = false) (h : ∀ i, i < s.length → 32 ≤ (s.getD i 0).toNat ∧ ¬ ((s.getD i 0).toNat : Int) = 47) : partOk2 s = true := by
  rw [partOk2, hb, all_true fun i hi => by rw [decide_eq_true (h i hi).1, decide_eq_false (h i hi).2]; rfl]; rfl
end Go.Graft
namespace Go.Proofs.Tryz
open Go Go.Sym Go.Graft
set_option maxRecDepth 20000
theorem cPart (s : Str) (hs : s.length ≤ 1000000000000) : Ctr prog 206 [sV s] [] (bV (partOk s)) [] [] := by
  have hpb : partBad s = (decide ((s.length : Int) < 1) || decide (64 < (s.length : Int)) || decide (s = [46]) || decide (s = [46, 46]) || decide (s = [46, 103, 114, 97, 102, 116])) := rfl
  refine Ctr.enter tblOk func206 rfl (by decide) rfl (nt := 34) rfl rfl rfl rfl ?_
  refine Trip.seq ?_
  apply Trip.reg tblOk
  · repeat' constructor
  · exact rfl
  refine Trip.seq ?_
  refine Trip.seq ?_
  apply Trip.reg tblOk
  · repeat' (first | exact rfl | ((with_reducible refine Side.mk ?_); first | exact fun h => h | exact fun _ h => congrArg Bool.not h) | constructor)
  · exact rfl
  apply Trip.cond (.tmp rfl)
  · intro h
    have h : partBad s = true := h
    rw [(partOk_bad h).1]
    refine Trip.seq ?_
    apply Trip.reg tblOk
    · repeat' constructor
    · exact rfl
    refine Trip.ret ?_
    apply Ret1 []
    · repeat' (first | exact rfl | constructor)
    · exact rfl
    · repeat' (exact cvB (by simp only [List.length_map]))
  intro h
  have hb : partBad s = false := h
  refine Trip.skip ?_
  refine Trip.seq ?_
  refine Trip.seq ?_
  apply Trip.reg tblOk
  · repeat' (first | exact rfl | constructor)
  · exact rfl
  refine Trip.block ?_
  apply Trip.loop (fun (i : Nat) => ⟨[(0, sV s), (25, iV s.length), (26, iV i)], []⟩) (fun (i : Nat) => i ≤ s.length ∧ ∀ j, j < i → 32 ≤ (s.getD j 0).toNat) (fun (i : Nat) => s.length - i) (0)
  · exact ⟨Nat.zero_le _, fun j hj => absurd hj (by omega)⟩
  · apply Weak.keep
    · exact rfl
    · repeat' (first | exact rfl | constructor)
    · repeat' constructor
    · exact rfl
    · repeat' constructor
  intro i hi
  obtain ⟨hi, hj⟩ := hi
  refine Trip.seq ?_
  apply Trip.reg tblOk
  · repeat' (first | exact rfl | constructor)
  · exact rfl
  refine Trip.seq ?_
  apply Trip.cond (.tmp rfl)
  · intro h
    have h : i < s.length := by simp at h; omega
    refine Trip.skip ?_
    refine Trip.seq ?_
    refine Trip.block ?_
    refine Trip.seq ?_
    apply Trip.reg tblOk
    · repeat' (first | exact rfl | constructor)
    · exact rfl
    refine Trip.seq ?_
    apply Trip.reg tblOk
    · repeat' (first | exact rfl | ((with_reducible refine Side.mk ?_); omega) | constructor)
    · exact rfl
    apply Trip.cond (.tmp rfl)
    · intro h2
      have h2 : ¬ 32 ≤ (s.getD i 0).toNat := by
        have : ((s.getD i 0).toNat : Int) < 32 := by simpa using h2
        omega
      rw [partOk_false h h2]
      refine Trip.seq ?_
      apply Trip.reg tblOk
      · repeat' constructor
      · exact rfl
      refine Trip.ret ?_
      apply Ret1 []
      · repeat' (first | exact rfl | constructor)
      · exact rfl
      · repeat' (exact cvB (by simp only [List.length_map]))
    intro h2
    have h2 : 32 ≤ (s.getD i 0).toNat := by
      have : ¬ ((s.getD i 0).toNat : Int) < 32 := by simpa using h2
      omega
    refine Trip.skip ?_
    apply Trip.reg tblOk
    · repeat' (first | exact rfl | ((with_reducible refine Side.mk ?_); omega) | constructor)
    · exact rfl
    refine ⟨i + 1, ?_, ?_, ?_⟩
    · exact ⟨by omega, fun j h3 => (Nat.lt_succ_iff_lt_or_eq.1 h3).elim (hj j) (fun e => e ▸ h2)⟩
    · first | omega | (dsimp only at *; omega)
    · apply Weak.keep
      · exact rfl
      · repeat' (first | exact rfl | constructor)
      · repeat' constructor
      · exact rfl
      · repeat' constructor
  intro h
  have h : i = s.length := by simp at h; omega
  subst h
  refine Trip.exit ?_
  rw [partOk_true hb hj]
  refine Trip.seq ?_
  apply Trip.reg tblOk
  · repeat' constructor
  · exact rfl
  refine Trip.ret ?_
  apply Ret1 []
  · repeat' (first | exact rfl | constructor)
  · exact rfl
  · repeat' (exact cvB (by simp only [List.length_map]))
theorem cPart2 (s : Str) (hs : s.length ≤ 1000000000000) : Ctr prog 190 [sV s] [] (bV (partOk2 s)) [] [] := by
  refine Ctr.enter tblOk func190 rfl (by decide) rfl (nt := 40) rfl rfl rfl rfl ?_
  refine Trip.seq ?_
  apply Trip.reg tblOk
  · repeat' constructor
  · exact rfl
  refine Trip.seq ?_
  refine Trip.seq ?_
  apply Trip.reg tblOk
  · repeat' (first | exact rfl | ((with_reducible refine Side.mk ?_); first | exact fun h => h | exact fun _ h => congrArg Bool.not h) | constructor)
  · exact rfl
  apply Trip.cond (.tmp rfl)
  · intro h
    have h : partBad s = true := h
    rw [(partOk_bad h).2]
    refine Trip.seq ?_
    apply Trip.reg tblOk
    · repeat' constructor
    · exact rfl
    refine Trip.ret ?_
    apply Ret1 []
    · repeat' (first | exact rfl | constructor)
    · exact rfl
    · repeat' (exact cvB (by simp only [List.length_map]))
  intro h
  have hb : partBad s = false := h
  refine Trip.skip ?_
  refine Trip.seq ?_
  refine Trip.seq ?_
  apply Trip.reg tblOk
  · repeat' constructor
  · exact rfl
  refine Trip.block ?_
  apply Trip.loop (fun (i : Nat) => ⟨[(0, sV s), (3, iV i)], []⟩) (fun (i : Nat) => i ≤ s.length ∧ ∀ j, j < i → 32 ≤ (s.getD j 0).toNat ∧ ¬ ((s.getD j 0).toNat : Int) = 47) (fun (i : Nat) => s.length - i) (0)
  · exact ⟨Nat.zero_le _, fun j hj => absurd hj (by omega)⟩
  · apply Weak.keep
    · exact rfl
    · repeat' (first | exact rfl | constructor)
    · repeat' constructor
    · exact rfl
    · repeat' constructor
  intro i hi
  obtain ⟨hi, hj⟩ := hi
  refine Trip.seq ?_
  refine Trip.seq ?_
  apply Trip.reg tblOk
  · repeat' (first | exact rfl | constructor)
  · exact rfl
  apply Trip.cond (.tmp rfl)
  · intro h
    have h : i < s.length := by simp at h; omega
    refine Trip.skip ?_
    refine Trip.seq ?_
    refine Trip.block ?_
    refine Trip.seq ?_
    apply Trip.reg tblOk
    · repeat' (first | exact rfl | ((with_reducible refine Side.mk ?_); first | omega | exact fun h => h | exact fun _ h => congrArg Bool.not h) | constructor)
    · exact rfl
    apply Trip.cond (.tmp rfl)
    · intro h2
      have h2 : ¬ (32 ≤ (s.getD i 0).toNat ∧ ¬ ((s.getD i 0).toNat : Int) = 47) := by
        have : ((s.getD i 0).toNat : Int) < 32 ∨ ((s.getD i 0).toNat : Int) = 47 := by simpa using h2
        omega
      rw [partOk2_false h h2]
      refine Trip.seq ?_
      apply Trip.reg tblOk
      · repeat' constructor
      · exact rfl
      refine Trip.ret ?_
      apply Ret1 []
      · repeat' (first | exact rfl | constructor)
      · exact rfl
      · repeat' (exact cvB (by simp only [List.length_map]))
    intro h2
    have h2 : 32 ≤ (s.getD i 0).toNat ∧ ¬ ((s.getD i 0).toNat : Int) = 47 := by
      have : ¬ (((s.getD i 0).toNat : Int) < 32 ∨ ((s.getD i 0).toNat : Int) = 47) := by simpa using h2
      omega
    refine Trip.skip ?_
    apply Trip.reg tblOk
    · repeat' (first | exact rfl | ((with_reducible refine Side.mk ?_); omega) | constructor)
    · exact rfl
    refine ⟨i + 1, ?_, ?_, ?_⟩
    · exact ⟨by omega, fun j h3 => (Nat.lt_succ_iff_lt_or_eq.1 h3).elim (hj j) (fun e => e ▸ h2)⟩
    · first | omega | (dsimp only at *; omega)
    · apply Weak.keep
      · exact rfl
      · repeat' (first | exact rfl | constructor)
      · repeat' constructor
      · exact rfl
      · repeat' constructor
  intro h
  have h : i = s.length := by simp at h; omega
  subst h
  refine Trip.exit ?_
  rw [partOk2_true hb hj]
  refine Trip.seq ?_
  apply Trip.reg tblOk
  · repeat' constructor
  · exact rfl
  refine Trip.ret ?_
  apply Ret1 []
  · repeat' (first | exact rfl | constructor)
  · exact rfl
  · repeat' (exact cvB (by simp only [List.length_map]))
end Go.Proofs.Tryz
namespace Go.Graft
theorem indexByte_none : ∀ {l : Str} {c : UInt8}, (∀ j, j < l.length → l.getD j 0 ≠ c) → Lib.indexByte l c = -1
  | [], c, _ => rfl
  | b :: l, c, h => by
    have h0 : b ≠ c := by have := h 0 (by simp); simpa using this
    have ih := indexByte_none (l := l) (c := c) fun j hj => by have := h (j + 1) (by simp; omega); simpa using this
    rw [Lib.indexByte, if_neg (by simpa using h0), ih]; rfl
theorem indexByte_some : ∀ {l : Str} {c : UInt8} {k : Nat}, k < l.length → (∀ j, j < k → l.getD j 0 ≠ c) → l.getD k 0 = c → Lib.indexByte l c = (k : Int)
  | [], c, k, h, _, _ => by simp at h
  | b :: l, c, 0, _, _, h => by
    have : b = c := by simpa using h
    rw [Lib.indexByte, if_pos (by simpa using this)]; rfl
  | b :: l, c, k + 1, hk, hj, h => by
    have h0 : b ≠ c := by have := hj 0 (by omega); simpa using this
    have ih := indexByte_some (l := l) (c := c) (k := k) (by simpa using hk) (fun j hj2 => by have := hj (j + 1) (by omega); simpa using this) (by simpa using h)
    rw [Lib.indexByte, if_neg (by simpa using h0), ih]
    have : ((k : Int) == -1) = false := by simp
    rw [this]; simp
def findB (s : Str) (c : UInt8) (a : Nat) : Int := if Lib.indexByte (s.drop a) c < 0 then -1 else a + Lib.indexByte (s.drop a) c
theorem getD_drop (s : Str) (a j : Nat) : (s.drop a).getD j 0 = s.getD (a + j) 0 := by
  simp [List.getD_eq_getElem?_getD, List.getElem?_drop]
theorem findB_none {s : Str} {c : UInt8} {a : Nat} (h : ∀ j, a ≤ j → j < s.length → s.getD j 0 ≠ c) : findB s c a = -1 := by
  rw [findB, indexByte_none (fun j hj => by rw [getD_drop]; exact h _ (by omega) (by rw [List.length_drop] at hj; omega))]; rfl
theorem findB_some {s : Str} {c : UInt8} {a i : Nat} (ha : a ≤ i) (hi : i < s.length) (h : ∀ j, a ≤ j → j < i → s.getD j 0 ≠ c) (hc : s.getD i 0 = c) : findB s c a = (i : Int) := by
  have := indexByte_some (l := s.drop a) (c := c) (k := i - a) (by rw [List.length_drop]; omega) (fun j hj => by rw [getD_drop]; exact h _ (by omega) (by omega)) (by rw [getD_drop, show a + (i - a) = i by omega]; exact hc)
  rw [findB, this, if_neg (by omega)]; omega
theorem u8_ne {a b : UInt8} (h : ¬ (a.toNat : Int) = (b.toNat : Int)) : a ≠ b := fun e => h (by rw [e])
theorem u8_eq {a b : UInt8} (h : (a.toNat : Int) = (b.toNat : Int)) : a = b := UInt8.toNat.inj (by omega)
end Go.Graft
