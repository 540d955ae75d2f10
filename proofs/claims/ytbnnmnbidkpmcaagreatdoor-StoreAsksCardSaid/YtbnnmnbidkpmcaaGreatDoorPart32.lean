/- A part of the proof: Hb, GTrf, GZon, Hj. -/
import Derived.Test.YtbnnmnbidkpmcaaGreatDoorPart31
set_option linter.unusedVariables false
set_option linter.unusedSimpArgs false
namespace Go.Proofs.Tryz
open Go Go.Sym Go.Graft
set_option maxRecDepth 20000
theorem cMay (x : En) (hn : x.name.length ≤ 1000000000) (hi : x.id.length ≤ 1000000000) : Ctr prog 146 [x.pv] [] (bV (mayE x)) [] [] := by
  have c1 := cPathIs x.name
  have c2 := sContains x.name [47] (by omega)
  have c3 := cIs x.id (by omega)
  have e : mayE x = (decide (1 ≤ x.mode) && decide (x.mode ≤ 4) && pathOk x.name && !Lib.contains x.name [47] && isId x.id) := by
    have : decide (Lib.indexByte x.name 47 < 0) = !Lib.contains x.name [47] := by
      rw [Lib.contains, index_one, ← decide_not]; exact decide_eq_decide.2 (by omega)
    rw [mayE, this]
  rw [e]
  generalize pathOk x.name = a at *
  generalize Lib.contains x.name [47] = b at *
  generalize isId x.id = d at *
  refine Ctr.enter tblOk func146 rfl (by decide) rfl (nt := 27) rfl rfl rfl rfl ?_
  refine Trip.seq ?_
  apply Trip.reg tblOk
  · repeat' (first | exact rfl | constructor)
  · exact rfl
  refine Trip.seq ?_
  apply Trip.reg tblOk
  · repeat' (first | exact rfl | (apply Rule.sem; intro hγ; with_reducible apply F_call0 (x := .func 180) (B := []) hγ (hspec := c1)) | (apply Rule.sem; intro hγ; with_reducible apply F_call0 (x := .func 153) (B := []) hγ (hspec := c2)) | (apply Rule.sem; intro hγ; with_reducible apply F_call0 (x := .func 148) (B := []) hγ (hspec := c3)) | ((with_reducible refine Side.mk ?_); first | exact .inl rfl | exact fun h => h | exact fun _ h => h) | constructor)
  · exact rfl
  refine Trip.ret ?_
  apply Ret1 []
  · repeat' (first | exact rfl | constructor)
  · exact rfl
  · repeat' (exact cvB (by simp only [List.length_map]))
theorem cMay15 (x : En) (hn : x.name.length ≤ 1000000000) (hi : x.id.length ≤ 1000000000) : Ctr prog 131 [x.pv] [] (bV (mayE x)) [] [] := by
  have c1 := cIs6 x.name (by omega)
  have c2 := cFind14 x.name 47 0 (by omega) (Nat.zero_le _)
  have c3 := cIs2 x.id (by omega)
  have hf : findB x.name 47 0 = Lib.indexByte x.name 47 := by
    have := Lib.indexByte_ge x.name 47
    rw [findB, List.drop_zero]
    split <;> omega
  rw [hf] at c2
  have e : mayE x = (decide (1 ≤ x.mode) && decide (x.mode ≤ 4) && pathOk x.name && decide (Lib.indexByte x.name 47 < 0) && isId x.id) := rfl
  rw [e]
  generalize pathOk x.name = a at *
  generalize Lib.indexByte x.name 47 = b at *
  generalize isId x.id = d at *
  refine Ctr.enter tblOk func131 rfl (by decide) rfl (nt := 27) rfl rfl rfl rfl ?_
  refine Trip.seq ?_
  apply Trip.reg tblOk
  · repeat' (first | exact rfl | constructor)
  · exact rfl
  refine Trip.seq ?_
  apply Trip.reg tblOk
  · repeat' (first | exact rfl | (apply Rule.sem; intro hγ; with_reducible apply F_call0 (x := .func 160) (B := []) hγ (hspec := c1)) | (apply Rule.sem; intro hγ; with_reducible apply F_call0 (x := .func 130) (B := []) hγ (hspec := c2)) | (apply Rule.sem; intro hγ; with_reducible apply F_call0 (x := .func 88) (B := []) hγ (hspec := c3)) | ((with_reducible refine Side.mk ?_); first | exact .inl rfl | exact fun h => h | exact fun _ h => h) | constructor)
  · exact rfl
  refine Trip.ret ?_
  apply Ret1 []
  · repeat' (first | exact rfl | constructor)
  · exact rfl
  · repeat' (exact cvB (by simp only [List.length_map]))
theorem cBegins (s t : Str) (hs : s.length ≤ 1000000000000) (ht : t.length ≤ 1000000000000) : Ctr prog 159 [sV s, sV t] [] (bV (Lib.hasPrefix s t)) [] [] := by
  rw [← begins_eq]
  refine Ctr.enter tblOk func159 rfl (by decide) rfl (nt := 18) rfl rfl rfl rfl ?_
  refine Trip.seq ?_
  apply Trip.reg tblOk
  · repeat' constructor
  · exact rfl
  refine Trip.seq ?_
  apply Trip.reg tblOk
  · repeat' (first | exact rfl | (apply Rule.under tblOk; intro hγ; with_reducible apply Rule.slice) | ((first | with_reducible refine bokR ?_ | with_reducible refine Side.mk ?_); first | exact fun h => h | exact fun _ h => h | exact fun _ => hγ | (have h2 := hγ; simp only [gpick, cond_true, cond_false, decide_eq_true_eq, Bool.and_eq_true, Bool.or_eq_true, Bool.not_eq_true', Bool.not_eq_false', Bool.or_eq_false_iff, decide_eq_false_iff_not, List.length_map] at h2; (try simp only [List.length_map]); omega)) | constructor)
  · exact rfl
  refine Trip.ret ?_
  apply Ret1 []
  · repeat' (first | exact rfl | constructor)
  · exact rfl
  · repeat' constructor
theorem cMode15 (s : Str) (hs : s.length ≤ 1000000000) : Ctr prog 128 [sV s] [] (iV (modeOf s)) [] [] := by
  have c1 := fun m : Nat => cDig15 m
  have c2 := fun (m : Nat) (h1 : 1 ≤ m) (h2 : m ≤ 4) => cBegins s (modeD m) (by omega) (by have := modeD_len m h1 h2; omega)
  have c3 := fun (m : Nat) (h1 : 1 ≤ m) (h2 : m ≤ 4) => cBegins (modeD m) s (by have := modeD_len m h1 h2; omega) (by omega)
  refine Ctr.enter tblOk func128 rfl (by decide) rfl (nt := 22) rfl rfl rfl rfl ?_
  refine Trip.seq ?_
  apply Trip.reg tblOk
  · repeat' constructor
  · exact rfl
  refine Trip.seq ?_
  refine Trip.seq ?_
  apply Trip.reg tblOk
  · repeat' constructor
  · exact rfl
  refine Trip.block ?_
  apply Trip.loop (fun (m : Nat) => ⟨[(0, sV s), (3, iV m)], []⟩) (fun (m : Nat) => 1 ≤ m ∧ m ≤ 5 ∧ ∀ j : Nat, 1 ≤ j → j < m → Lib.hasPrefix s (modeD (j : Int)) = false) (fun (m : Nat) => 5 - m) (1)
  · exact ⟨Nat.le_refl _, by omega, fun j h1 h2 => absurd h1 (by omega)⟩
  · apply Weak.keep
    · exact rfl
    · repeat' (first | exact rfl | constructor)
    · repeat' constructor
    · exact rfl
    · repeat' constructor
  intro m hm
  obtain ⟨h1, h2, hj⟩ := hm
  refine Trip.seq ?_
  refine Trip.seq ?_
  apply Trip.reg tblOk
  · repeat' (first | exact rfl | constructor)
  · exact rfl
  apply Trip.cond (.tmp rfl)
  · intro h
    have h : m ≤ 4 := by simp at h; omega
    have c1 := c1 m
    have c2 := c2 m h1 h
    have hd := fun (hp : Lib.hasPrefix s (modeD (m : Int)) = true) => modeOf_hit h1 h hj hp
    have hd2 := fun (hp : Lib.hasPrefix s (modeD (m : Int)) = false) (j : Nat) (h3 : 1 ≤ j) (h4 : j < m + 1) => (Nat.lt_succ_iff_lt_or_eq.1 h4).elim (hj j h3) (fun e => e ▸ hp)
    generalize hpp : Lib.hasPrefix s (modeD (m : Int)) = p at c2 hd hd2
    generalize modeD (m : Int) = d at c1 c2
    refine Trip.skip ?_
    refine Trip.seq ?_
    refine Trip.block ?_
    refine Trip.seq ?_
    apply Trip.reg tblOk
    · repeat' (first | exact rfl | (apply Rule.sem; intro hγ; with_reducible apply F_call0 (x := .func 129) (B := []) hγ (hspec := c1)) | (apply Rule.sem; intro hγ; with_reducible apply F_call0 (x := .func 159) (B := []) hγ (hspec := c2)) | ((with_reducible refine Side.mk ?_); exact .inl rfl) | constructor)
    · exact rfl
    apply Trip.cond (.tmp rfl)
    · intro h3
      have h3 : p = true := by simpa using h3
      rw [hd h3]
      refine Trip.seq ?_
      apply Trip.reg tblOk
      · repeat' (first | exact rfl | constructor)
      · exact rfl
      refine Trip.ret ?_
      apply Ret1 []
      · repeat' (first | exact rfl | constructor)
      · exact rfl
      · repeat' constructor
    intro h3
    have h3 : p = false := by simpa using h3
    refine Trip.skip ?_
    apply Trip.reg tblOk
    · repeat' (first | exact rfl | ((with_reducible refine Side.mk ?_); omega) | constructor)
    · exact rfl
    refine ⟨m + 1, ?_, ?_, ?_⟩
    · exact ⟨by omega, by omega, hd2 h3⟩
    · first | omega | (dsimp only at *; omega)
    · apply Weak.keep
      · exact rfl
      · repeat' (first | exact rfl | constructor)
      · repeat' constructor
      · exact rfl
      · repeat' constructor
  intro h
  have h : m = 5 := by simp at h; omega
  subst h
  refine Trip.exit ?_
  rw [modeOf_no hj]
  refine Trip.seq ?_
  refine Trip.seq ?_
  apply Trip.reg tblOk
  · repeat' constructor
  · exact rfl
  refine Trip.block ?_
  apply Trip.loop (fun (m : Nat) => ⟨[(0, sV s), (4, iV m)], []⟩) (fun (m : Nat) => 1 ≤ m ∧ m ≤ 5 ∧ ∀ j : Nat, 1 ≤ j → j < m → Lib.hasPrefix (modeD (j : Int)) s = false) (fun (m : Nat) => 5 - m) (1)
  · exact ⟨Nat.le_refl _, by omega, fun j h1 h2 => absurd h1 (by omega)⟩
  · apply Weak.keep
    · exact rfl
    · repeat' (first | exact rfl | constructor)
    · repeat' constructor
    · exact rfl
    · repeat' constructor
  intro m hm
  obtain ⟨h1, h2, hj⟩ := hm
  refine Trip.seq ?_
  refine Trip.seq ?_
  apply Trip.reg tblOk
  · repeat' (first | exact rfl | constructor)
  · exact rfl
  apply Trip.cond (.tmp rfl)
  · intro h
    have h : m ≤ 4 := by simp at h; omega
    have c1 := c1 m
    have c3 := c3 m h1 h
    have hd := fun (hp : Lib.hasPrefix (modeD (m : Int)) s = true) => shortN_true h1 h hp
    have hd2 := fun (hp : Lib.hasPrefix (modeD (m : Int)) s = false) (j : Nat) (h3 : 1 ≤ j) (h4 : j < m + 1) => (Nat.lt_succ_iff_lt_or_eq.1 h4).elim (hj j h3) (fun e => e ▸ hp)
    generalize hpp : Lib.hasPrefix (modeD (m : Int)) s = p at c3 hd hd2
    generalize modeD (m : Int) = d at c1 c3
    refine Trip.skip ?_
    refine Trip.seq ?_
    refine Trip.block ?_
    refine Trip.seq ?_
    apply Trip.reg tblOk
    · repeat' (first | exact rfl | (apply Rule.sem; intro hγ; with_reducible apply F_call0 (x := .func 129) (B := []) hγ (hspec := c1)) | (apply Rule.sem; intro hγ; with_reducible apply F_call0 (x := .func 159) (B := []) hγ (hspec := c3)) | ((with_reducible refine Side.mk ?_); exact .inl rfl) | constructor)
    · exact rfl
    apply Trip.cond (.tmp rfl)
    · intro h3
      have h3 : p = true := by simpa using h3
      rw [if_pos (hd h3)]
      refine Trip.seq ?_
      apply Trip.reg tblOk
      · repeat' constructor
      · exact rfl
      refine Trip.ret ?_
      apply Ret1 []
      · repeat' (first | exact rfl | constructor)
      · exact rfl
      · repeat' constructor
    intro h3
    have h3 : p = false := by simpa using h3
    refine Trip.skip ?_
    apply Trip.reg tblOk
    · repeat' (first | exact rfl | ((with_reducible refine Side.mk ?_); omega) | constructor)
    · exact rfl
    refine ⟨m + 1, ?_, ?_, ?_⟩
    · exact ⟨by omega, by omega, hd2 h3⟩
    · first | omega | (dsimp only at *; omega)
    · apply Weak.keep
      · exact rfl
      · repeat' (first | exact rfl | constructor)
      · repeat' constructor
      · exact rfl
      · repeat' constructor
  intro h
  have h : m = 5 := by simp at h; omega
  subst h
  refine Trip.exit ?_
  rw [shortN_false hj]
  refine Trip.seq ?_
  apply Trip.reg tblOk
  · repeat' constructor
  · exact rfl
  refine Trip.ret ?_
  apply Ret1 []
  · repeat' (first | exact rfl | constructor)
  · exact rfl
  · repeat' constructor
end Go.Proofs.Tryz
namespace Go.Graft
open Go.Sym
theorem vT {a b : Str} (h : a = b) : sV a = sV b := by rw [h]
theorem oneE_len (s : Str) : (oneE s).2.1.name.length ≤ s.length ∧ (oneE s).2.1.id.length ≤ 40 := by
  rw [oneE]
  split
  · simp
  split
  · simp
  simp only []
  split
  · simp
  split
  · simp
  · refine ⟨?_, ?_⟩
    · simp only [List.length_take, List.length_drop]; omega
    · rw [hexOf_len]; simp only [List.length_take]; omega
def Reads (s : Str) (x : Str × List En) : Prop := entsA x.1 x.2 = entsA s [] ∧ x.2.length + x.1.length ≤ s.length ∧ ∀ e ∈ x.2, e.name.length ≤ 1000000000 ∧ e.id.length ≤ 1000000000
theorem reads_zero (s : Str) : Reads s (s, []) := ⟨rfl, by simp, by simp⟩
theorem reads_next {s t : Str} {acc : List En} (hs : s.length ≤ 1000000000) (h : Reads s (t, acc)) (ht : t ≠ []) (h1 : (oneE t).1 = 0) : Reads s ((oneE t).2.2, acc ++ [(oneE t).2.1]) := by
  obtain ⟨g1, g2, g3⟩ := h
  have h2 := oneE_short h1
  have h3 := oneE_len t
  refine ⟨(entsA_one ht h1).symm.trans g1, by simp only [List.length_append, List.length_singleton] at *; omega, fun e he => ?_⟩
  rcases List.mem_append.1 he with he | he
  · exact g3 e he
  · rw [List.mem_singleton.1 he]; simp only at g2; omega
theorem treeOf_err {s t : Str} {acc : List En} (h : Reads s (t, acc)) (ht : t ≠ []) (h1 : (oneE t).1 ≠ 0) : treeOf s = ((oneE t).1, []) := by
  have := h.1
  rw [entsA_err ht h1] at this
  rw [treeOf, ← this, if_pos h1]
theorem treeOf_end {s : Str} {acc : List En} (h : Reads s ([], acc)) : treeOf s = if checkE acc ≠ 0 then (checkE acc, []) else (0, acc) := by
  have := h.1
  rw [entsA_nil] at this
  rw [treeOf, ← this, if_neg (by simp)]
theorem drop_all (s : Str) (n : Nat) : (s.take s.length).drop n = s.drop n := by rw [List.take_length]
theorem oneN_rest {t : Str} (h1 : (oneE t).1 = 0) : t.drop (oneN t) = (oneE t).2.2 ∧ oneN t ≤ t.length := by
  have hm : modeE t = 0 := by
    cases h : decide (modeE t = 0) with
    | true => simpa using h
    | false => have h : modeE t ≠ 0 := by simpa using h
               have := oneE_mode h; omega
  have hf := oneE_find hm
  have hb : findBad t = false := by
    cases h : findBad t with
    | false => rfl
    | true => rw [h] at hf; have := hf.1; simp at this; omega
  obtain ⟨e, _, h2, _, _, h5, h6⟩ := hf.2 hb
  rw [h6, h5]; exact ⟨rfl, h2⟩
theorem cntN_step (l : List En) (i : Nat) (h : i < l.length) : cntN (l.map En.name) (i + 1) = (mkeys (cntN (l.map En.name) i).1 l[i]!.name, mset (cntN (l.map En.name) i).1 (cntN (l.map En.name) i).2 l[i]!.name (mval (cntN (l.map En.name) i).1 (cntN (l.map En.name) i).2 0 l[i]!.name + 1)) := by
  rw [cntN, map_bang _ _ _ h]
theorem cntN_bound (l : List Str) (y : Str) (i : Nat) (h : i ≤ l.length) : 0 ≤ mval (cntN l i).1 (cntN l i).2 0 y ∧ mval (cntN l i).1 (cntN l i).2 0 y ≤ l.length := by
  rw [cntN_val l y i h]
  have h1 : (l.take i).count y ≤ (l.take i).length := List.count_le_length
  rw [List.length_take] at h1
  omega
end Go.Graft
namespace Go.Graft
open Go.Sym
theorem zonBad_len {s : Str} (h : zonBad s = false) : s.length = 5 := by
  simp only [zonBad, Bool.or_eq_false_iff, decide_eq_false_iff_not] at h
  omega
theorem zonOk_bad {s : Str} (h : zonBad s = true) : zonOk s = false := by rw [zonOk, h]; rfl
theorem getD_drop1 (s : Str) (j : Nat) : (s.drop 1).getD j 0 = s.getD (j + 1) 0 := by rw [getD_drop, Nat.add_comm]
theorem zonOk_dig {s : Str} {i : Nat} (hl : s.length = 5) (h1 : 1 ≤ i) (h : i < 5) (hp : badD (s.getD i 0) = true) : zonOk s = false := by
  rw [zonOk, all_false (p := fun c => !badD c) (s := s.drop 1) (i := i - 1) (by rw [List.length_drop]; omega) (by rw [getD_drop1, show i - 1 + 1 = i by omega, hp]; rfl), Bool.and_false, Bool.false_and]
theorem zonOk_end {s : Str} (hb : zonBad s = false) (h : ∀ i, 1 ≤ i → i < 5 → badD (s.getD i 0) = false) : zonOk s = decide (zonM s < 60) := by
  have hl := zonBad_len hb
  rw [zonOk, hb, all_true (p := fun c => !badD c) fun i hi => by
    rw [List.length_drop] at hi
    rw [getD_drop1, h (i + 1) (by omega) (by omega)]; rfl]
  rfl
theorem zon_digs {s : Str} (hl : s.length = 5) (h : ∀ i, 1 ≤ i → i < 5 → badD (s.getD i 0) = false) : (∀ c ∈ s.drop 3, badD c = false) ∧ ∀ c ∈ (s.drop 1).take 2, badD c = false := by
  have key : ∀ c ∈ s.drop 1, badD c = false := by
    intro c hc
    obtain ⟨i, hi, rfl⟩ := List.getElem_of_mem hc
    rw [List.length_drop] at hi
    have := h (i + 1) (by omega) (by omega)
    rw [List.getElem_drop]
    rw [List.getD_eq_getElem?_getD, List.getElem?_eq_getElem (by omega)] at this
    simpa [Nat.add_comm] using this
  refine ⟨fun c hc => key c ?_, fun c hc => key c (List.mem_of_mem_take hc)⟩
  have : s.drop 3 = (s.drop 1).drop 2 := by rw [List.drop_drop]
  rw [this] at hc
  exact List.mem_of_mem_drop hc
theorem zon_vals {s : Str} (hl : s.length = 5) (h : ∀ i, 1 ≤ i → i < 5 → badD (s.getD i 0) = false) : 0 ≤ zonM s ∧ zonM s < 100 ∧ 0 ≤ zonH s ∧ zonH s < 100 := by
  obtain ⟨h1, h2⟩ := zon_digs hl h
  have h3 := valD_lt h1 2 (by rw [List.length_drop]; omega)
  have h4 := valD_lt h2 2 (by rw [List.length_take]; omega)
  rw [zonM, zonH]
  omega
theorem valD_le {s : Str} (hl : s.length ≤ 18) (h : ∀ c ∈ s, badD c = false) (i : Nat) (hi : i < s.length) : valD (s.take i) < 100000000000000000 := by
  have := valD_lt (s := s.take i) (fun c hc => h c (List.mem_of_mem_take hc)) 17 (by rw [List.length_take]; omega)
  omega
end Go.Graft
namespace Go.Proofs.Tryz
open Go Go.Sym Go.Graft
set_option maxRecDepth 20000
theorem cDigits16 (s : Str) (hs : s.length ≤ 1000000000000) : Ctr prog 164 [sV s] [] (bV (numOk s)) [] [] := by
  have hnb : numBad s = (decide ((s.length : Int) < 1) || decide (18 < (s.length : Int)) || (decide (1 < (s.length : Int)) && decide (((s.getD 0 0).toNat : Int) = 48))) := rfl
  refine Ctr.enter tblOk func164 rfl (by decide) rfl (nt := 38) rfl rfl rfl rfl ?_
  refine Trip.seq ?_
  apply Trip.reg tblOk
  · repeat' constructor
  · exact rfl
  refine Trip.seq ?_
  refine Trip.seq ?_
  apply Trip.reg tblOk
  · repeat' (first | exact rfl | (apply Rule.under tblOk; intro hγ; with_reducible apply Rule.index) | ((with_reducible refine Side.mk ?_); first | exact fun h => h | exact fun _ h => congrArg Bool.not h | (intro h1 h2; rw [h1, h2]; rfl) | exact fun _ => hγ | (have h2 := hγ; simp only [gpick, cond_true, cond_false, decide_eq_true_eq, Bool.and_eq_true, Bool.or_eq_true, Bool.not_eq_true', Bool.not_eq_false', Bool.or_eq_false_iff, decide_eq_false_iff_not, List.length_map] at h2; (try simp only [List.length_map]); omega)) | constructor)
  · exact rfl
  apply Trip.cond (.tmp rfl)
  · intro h
    have h : numBad s = true := h
    rw [numOk_bad h]
    refine Trip.seq ?_
    apply Trip.reg tblOk
    · repeat' constructor
    · exact rfl
    refine Trip.ret ?_
    apply Ret1 []
    · repeat' (first | exact rfl | constructor)
    · exact rfl
    · repeat' (exact cvB (by simp only [List.length_map]))
  intro h
  have hb : numBad s = false := h
  refine Trip.skip ?_
  refine Trip.seq ?_
  refine Trip.seq ?_
  apply Trip.reg tblOk
  · repeat' constructor
  · exact rfl
  refine Trip.block ?_
  apply Trip.loop (fun (i : Nat) => ⟨[(0, sV s), (3, iV i)], []⟩) (fun (i : Nat) => i ≤ s.length ∧ ∀ j, j < i → badD (s.getD j 0) = false) (fun (i : Nat) => s.length - i) (0)
  · exact ⟨Nat.zero_le _, fun j hj => absurd hj (by omega)⟩
  · apply Weak.keep
    · exact rfl
    · repeat' (first | exact rfl | constructor)
    · repeat' constructor
    · exact rfl
    · repeat' constructor
  intro i hi
  obtain ⟨hi, hj⟩ := hi
  refine Trip.seq ?_
  refine Trip.seq ?_
  apply Trip.reg tblOk
  · repeat' (first | exact rfl | constructor)
  · exact rfl
  apply Trip.cond (.tmp rfl)
  · intro h
    have h : i < s.length := by simp at h; omega
    refine Trip.skip ?_
    refine Trip.seq ?_
    refine Trip.block ?_
    refine Trip.seq ?_
    apply Trip.reg tblOk
    · repeat' (first | exact rfl | (apply Rule.under tblOk; intro hγ; with_reducible apply Rule.index) | ((with_reducible refine Side.mk ?_); first | omega | exact fun h => h | exact fun _ h => congrArg Bool.not h | exact fun _ => hγ) | constructor)
    · exact rfl
    apply Trip.cond (.tmp rfl)
    · intro h2
      have h2 : badD (s.getD i 0) = true := h2
      rw [numOk_false h h2]
      refine Trip.seq ?_
      apply Trip.reg tblOk
      · repeat' constructor
      · exact rfl
      refine Trip.ret ?_
      apply Ret1 []
      · repeat' (first | exact rfl | constructor)
      · exact rfl
      · repeat' (exact cvB (by simp only [List.length_map]))
    intro h2
    have h2 : badD (s.getD i 0) = false := h2
    refine Trip.skip ?_
    apply Trip.reg tblOk
    · repeat' (first | exact rfl | ((with_reducible refine Side.mk ?_); omega) | constructor)
    · exact rfl
    refine ⟨i + 1, ?_, ?_, ?_⟩
    · exact ⟨by omega, fun j h3 => (Nat.lt_succ_iff_lt_or_eq.1 h3).elim (hj j) (fun e => e ▸ h2)⟩
    · first | omega | (dsimp only at *; omega)
    · apply Weak.keep
      · exact rfl
      · repeat' (first | exact rfl | constructor)
      · repeat' constructor
      · exact rfl
      · repeat' constructor
  intro h
  have h : i = s.length := by simp at h; omega
  subst h
  have hok := numOk_true hb hj
  refine Trip.exit ?_
  rw [hok]
  refine Trip.seq ?_
  apply Trip.reg tblOk
  · repeat' constructor
  · exact rfl
  refine Trip.ret ?_
  apply Ret1 []
  · repeat' (first | exact rfl | constructor)
  · exact rfl
  · repeat' (exact cvB (by simp only [List.length_map]))
theorem cValue16 (s : Str) (hs : s.length ≤ 18) (hd : ∀ c ∈ s, badD c = false) : Ctr prog 165 [sV s] [] (iV (valD s)) [] [] := by
  refine Ctr.enter tblOk func165 rfl (by decide) rfl (nt := 20) rfl rfl rfl rfl ?_
  refine Trip.seq ?_
  apply Trip.reg tblOk
  · repeat' constructor
  · exact rfl
  refine Trip.seq ?_
  apply Trip.reg tblOk
  · repeat' constructor
  · exact rfl
  refine Trip.seq ?_
  refine Trip.seq ?_
  apply Trip.reg tblOk
  · repeat' constructor
  · exact rfl
  refine Trip.block ?_
  apply Trip.loop (fun (i : Nat) => ⟨[(0, sV s), (3, iV (valD (s.take i))), (4, iV i)], []⟩) (fun (i : Nat) => i ≤ s.length) (fun (i : Nat) => s.length - i) (0)
  · first | omega | (simp; done)
  · apply Weak.keep
    · exact rfl
    · repeat' (first | exact rfl | constructor)
    · repeat' constructor
    · exact rfl
    · repeat' constructor
  intro i hi
  refine Trip.seq ?_
  refine Trip.seq ?_
  apply Trip.reg tblOk
  · repeat' (first | exact rfl | constructor)
  · exact rfl
  apply Trip.cond (.tmp rfl)
  · intro h
    have h : i < s.length := by simp at h; omega
    have h1 := valD_le hs hd i h
    have h2 := valD_take s i h
    have h3 := hd (s.getD i 0) (by rw [List.getD_eq_getElem?_getD, List.getElem?_eq_getElem h]; exact List.getElem_mem h)
    have h4 : 48 ≤ (s.getD i 0).toNat ∧ (s.getD i 0).toNat ≤ 57 := by
      simp only [badD, Bool.or_eq_false_iff, decide_eq_false_iff_not] at h3; omega
    have h5 := wrap64n (s.getD i 0).toNat (s.getD i 0).toNat_lt
    have h6 : 10 * ((valD (s.take i) : Nat) : Int) + (s.getD i 0).toNat - 48 = ((valD (s.take (i + 1)) : Nat) : Int) := by rw [h2, valF]; omega
    clear h2
    generalize valD (s.take i) = v at *
    refine Trip.skip ?_
    refine Trip.seq ?_
    refine Trip.block ?_
    apply Trip.reg tblOk
    · repeat' (first | exact rfl | ((with_reducible refine Side.mk ?_); first | omega | (simp only [ln]; first | done | omega)) | constructor)
    · exact rfl
    apply Trip.reg tblOk
    · repeat' (first | exact rfl | ((with_reducible refine Side.mk ?_); omega) | constructor)
    · exact rfl
    refine ⟨i + 1, ?_, ?_, ?_⟩
    · first | omega | (dsimp only at *; omega)
    · first | omega | (dsimp only at *; omega)
    · apply Weak.keep
      · exact rfl
      · repeat' (first | exact rfl | (refine vI ?_; simp only [Int.toNat_natCast, h5]; exact h6) | constructor)
      · repeat' constructor
      · exact rfl
      · repeat' constructor
  intro h
  have h : i = s.length := by simp at h; omega
  subst h
  rw [List.take_length]
  refine Trip.exit ?_
  refine Trip.seq ?_
  apply Trip.reg tblOk
  · repeat' (first | exact rfl | constructor)
  · exact rfl
  refine Trip.ret ?_
  apply Ret1 []
  · repeat' (first | exact rfl | constructor)
  · exact rfl
  · repeat' constructor
theorem wrapSmall (n : Int) (h1 : -1000000 ≤ n) (h2 : n ≤ 1000000) : IntKind.wrap .i64 n = n := by simp [IntKind.wrap, IntKind.bits, IntKind.signed]; omega
theorem cZone16 (s : Str) (hs : s.length ≤ 1000000000000) : Ctr prog 163 [sV s] [] (.tup [iV (zonV s), bV (zonOk s)]) [] [] := by
  have hnb : zonBad s = (decide (¬ (s.length : Int) = 5) || (decide (¬ ((s.getD 0 0).toNat : Int) = 43) && decide (¬ ((s.getD 0 0).toNat : Int) = 45)) || decide (s = [45, 48, 48, 48, 48])) := rfl
  have hno : zonOk s = false → zonV s = 0 := fun h => by rw [zonV, if_pos h]
  refine Ctr.enter tblOk func163 rfl (by decide) rfl (nt := 55) rfl rfl rfl rfl ?_
  refine Trip.seq ?_
  apply Trip.reg tblOk
  · repeat' constructor
  · exact rfl
  refine Trip.seq ?_
  refine Trip.seq ?_
  apply Trip.reg tblOk
  · repeat' (first | exact rfl | (apply Rule.under tblOk; intro hγ; with_reducible apply Rule.index) | ((with_reducible refine Side.mk ?_); first | exact fun h => h | exact fun _ h => congrArg Bool.not h | (intro h1 h2; rw [h1, h2]; rfl) | exact fun _ => hγ | (have h2 := hγ; simp only [gpick, cond_true, cond_false, decide_eq_true_eq, Bool.and_eq_true, Bool.or_eq_true, Bool.not_eq_true', Bool.not_eq_false', Bool.or_eq_false_iff, decide_eq_false_iff_not, List.length_map] at h2; (try simp only [List.length_map]); omega)) | constructor)
  · exact rfl
  apply Trip.cond (.tmp rfl)
  · intro h
    have h : zonBad s = true := by rw [hnb]; simpa using h
    rw [hno (zonOk_bad h), zonOk_bad h]
    refine Trip.seq ?_
    apply Trip.reg tblOk
    · repeat' constructor
    · exact rfl
    refine Trip.ret ?_
    apply Ret2 []
    · repeat' (first | exact rfl | constructor)
    · exact rfl
    · repeat' constructor
    · repeat' (exact cvB (by simp only [List.length_map]))
  intro h
  have hb : zonBad s = false := by rw [hnb]; simpa using h
  have hl := zonBad_len hb
  refine Trip.skip ?_
  refine Trip.seq ?_
  refine Trip.seq ?_
  apply Trip.reg tblOk
  · repeat' constructor
  · exact rfl
  refine Trip.block ?_
  apply Trip.loop (fun (i : Nat) => ⟨[(0, sV s), (4, iV i)], []⟩) (fun (i : Nat) => 1 ≤ i ∧ i ≤ 5 ∧ ∀ j, 1 ≤ j → j < i → badD (s.getD j 0) = false) (fun (i : Nat) => 5 - i) (1)
  · exact ⟨Nat.le_refl _, by omega, fun j h1 h2 => absurd h1 (by omega)⟩
  · apply Weak.keep
    · exact rfl
    · repeat' (first | exact rfl | constructor)
    · repeat' constructor
    · exact rfl
    · repeat' constructor
  intro i hi
  obtain ⟨hi1, hi, hj⟩ := hi
  refine Trip.seq ?_
  refine Trip.seq ?_
  apply Trip.reg tblOk
  · repeat' (first | exact rfl | constructor)
  · exact rfl
  apply Trip.cond (.tmp rfl)
  · intro h
    have h : i < 5 := by simp at h; omega
    refine Trip.skip ?_
    refine Trip.seq ?_
    refine Trip.block ?_
    refine Trip.seq ?_
    apply Trip.reg tblOk
    · repeat' (first | exact rfl | (apply Rule.under tblOk; intro hγ; with_reducible apply Rule.index) | ((with_reducible refine Side.mk ?_); first | omega | exact fun h => h | exact fun _ h => congrArg Bool.not h | exact fun _ => hγ) | constructor)
    · exact rfl
    apply Trip.cond (.tmp rfl)
    · intro h2
      have h2 : badD (s.getD i 0) = true := h2
      rw [hno (zonOk_dig hl hi1 h h2), zonOk_dig hl hi1 h h2]
      refine Trip.seq ?_
      apply Trip.reg tblOk
      · repeat' constructor
      · exact rfl
      refine Trip.ret ?_
      apply Ret2 []
      · repeat' (first | exact rfl | constructor)
      · exact rfl
      · repeat' constructor
      · repeat' (exact cvB (by simp only [List.length_map]))
    intro h2
    have h2 : badD (s.getD i 0) = false := h2
    refine Trip.skip ?_
    apply Trip.reg tblOk
    · repeat' (first | exact rfl | ((with_reducible refine Side.mk ?_); omega) | constructor)
    · exact rfl
    refine ⟨i + 1, ?_, ?_, ?_⟩
    · exact ⟨by omega, by omega, fun j h1 h3 => (Nat.lt_succ_iff_lt_or_eq.1 h3).elim (hj j h1) (fun e => e ▸ h2)⟩
    · first | omega | (dsimp only at *; omega)
    · apply Weak.keep
      · exact rfl
      · repeat' (first | exact rfl | constructor)
      · repeat' constructor
      · exact rfl
      · repeat' constructor
  intro h
  have h : i = 5 := by simp at h; omega
  subst h
  have hok := zonOk_end hb hj
  have hv := zon_vals hl hj
  obtain ⟨hd1, hd2⟩ := zon_digs hl hj
  have e3 : (s.take s.length).drop 3 = s.drop 3 := by rw [List.take_length]
  have e1 : (s.take 3).drop 1 = (s.drop 1).take 2 := by rw [List.drop_take]
  have hl1 : ((s.take 3).drop 1).length ≤ 18 := by rw [e1, List.length_take]; omega
  have hl3 : ((s.take s.length).drop 3).length ≤ 18 := by rw [e3, List.length_drop]; omega
  have c1 : Ctr prog 165 [sV ((s.take 3).drop 1)] [] (iV (zonH s)) [] [] := by
    have := cValue16 ((s.take 3).drop 1) hl1 (by rw [e1]; exact hd2)
    rw [e1] at this ⊢; exact this
  have c2 : Ctr prog 165 [sV ((s.take s.length).drop 3)] [] (iV (zonM s)) [] [] := by
    have := cValue16 ((s.take s.length).drop 3) hl3 (by rw [e3]; exact hd1)
    rw [e3] at this ⊢; exact this
  rw [zonV, hok]
  generalize zonM s = m at *
  generalize zonH s = hh at *
  refine Trip.exit ?_
  refine Trip.seq ?_
  apply Trip.reg tblOk
  · repeat' (first | exact rfl | (apply Rule.sem; intro hγ; with_reducible apply F_call0 (x := .func 165) (B := []) hγ (hspec := c2)) | ((first | with_reducible refine bokL ?_ | with_reducible refine Side.mk ?_); first | omega | exact .inl rfl) | constructor)
  · exact rfl
  refine Trip.seq ?_
  refine Trip.seq ?_
  apply Trip.reg tblOk
  · repeat' (first | exact rfl | constructor)
  · exact rfl
  apply Trip.cond (.tmp rfl)
  · intro h
    have h : ¬ m < 60 := by simp at h; omega
    rw [decide_eq_false h, if_pos rfl]
    refine Trip.seq ?_
    apply Trip.reg tblOk
    · repeat' constructor
    · exact rfl
    refine Trip.ret ?_
    apply Ret2 []
    · repeat' (first | exact rfl | constructor)
    · exact rfl
    · repeat' constructor
    · repeat' (exact cvB (by simp only [List.length_map]))
  intro h
  have h : m < 60 := by simp at h; omega
  rw [decide_eq_true h, if_neg (by simp)]
  refine Trip.skip ?_
  refine Trip.seq ?_
  apply Trip.reg tblOk
  · repeat' (first | exact rfl | (apply Rule.sem; intro hγ; with_reducible apply F_call0 (x := .func 165) (B := []) hγ (hspec := c1)) | ((first | with_reducible refine bok ?_ | with_reducible refine Side.mk ?_); first | omega | exact .inl rfl) | constructor)
  · exact rfl
  refine Trip.seq ?_
  refine Trip.seq ?_
  apply Trip.reg tblOk
  · repeat' (first | exact rfl | ((with_reducible refine Side.mk ?_); omega) | constructor)
  · exact rfl
  apply Trip.cond (.tmp rfl)
  · intro h2
    have h2 : ((s.getD 0 0).toNat : Int) = 45 := by simpa using h2
    rw [if_pos h2]
    refine Trip.seq ?_
    apply Trip.reg tblOk
    · repeat' (first | exact rfl | constructor)
    · exact rfl
    refine Trip.ret ?_
    apply Ret2 []
    · repeat' (first | exact rfl | constructor)
    · exact rfl
    · repeat' (exact cvI (by rw [wrapSmall _ (by omega) (by omega)]; omega))
    · repeat' (exact cvB (by simp only [List.length_map]))
  intro h2
  have h2 : ¬ ((s.getD 0 0).toNat : Int) = 45 := by simpa using h2
  rw [if_neg h2]
  refine Trip.skip ?_
  refine Trip.seq ?_
  apply Trip.reg tblOk
  · repeat' (first | exact rfl | constructor)
  · exact rfl
  refine Trip.ret ?_
  apply Ret2 []
  · repeat' (first | exact rfl | constructor)
  · exact rfl
  · repeat' constructor
  · repeat' (exact cvB (by simp only [List.length_map]))
theorem cFind16 (s t : Str) (a : Nat) (hs : s.length ≤ 1000000000000) (ht : t ≠ []) (htl : t.length ≤ 1000000000000) (ha : a ≤ 1000000000000) : Ctr prog 133 [sV s, sV t, iV a] [] (iV (findS s t a)) [] [] := by
  refine Ctr.enter tblOk func133 rfl (by decide) rfl (nt := 28) rfl rfl rfl rfl ?_
  refine Trip.seq ?_
  apply Trip.reg tblOk
  · repeat' constructor
  · exact rfl
  refine Trip.seq ?_
  refine Trip.seq ?_
  apply Trip.reg tblOk
  · repeat' (first | exact rfl | constructor)
  · exact rfl
  refine Trip.block ?_
  apply Trip.loop (fun (i : Nat) => ⟨[(0, sV s), (1, sV t), (7, iV i)], []⟩) (fun (i : Nat) => a ≤ i ∧ (i ≤ a ∨ i ≤ s.length) ∧ ∀ j, a ≤ j → j < i → (s.drop j).take t.length ≠ t) (fun (i : Nat) => s.length + 1 - i) (a)
  · exact ⟨Nat.le_refl _, .inl (Nat.le_refl _), fun j hj hj2 => absurd hj (by omega)⟩
  · apply Weak.keep
    · exact rfl
    · repeat' (first | exact rfl | constructor)
    · repeat' constructor
    · exact rfl
    · repeat' constructor
  intro i hi
  obtain ⟨hi0, hi, hj⟩ := hi
  have ht1 : 1 ≤ t.length := by
    cases t with
    | nil => exact absurd rfl ht
    | cons _ _ => simp
  refine Trip.seq ?_
  refine Trip.seq ?_
  apply Trip.reg tblOk
  · repeat' (first | exact rfl | ((with_reducible refine Side.mk ?_); omega) | constructor)
  · exact rfl
  apply Trip.cond (.tmp rfl)
  · intro h
    have h : i + t.length ≤ s.length := by simp at h; omega
    have e : (s.take (i + t.length)).drop i = (s.drop i).take t.length := by rw [List.drop_take, Nat.add_sub_cancel_left]
    refine Trip.skip ?_
    refine Trip.seq ?_
    refine Trip.block ?_
    refine Trip.seq ?_
    apply Trip.reg tblOk
    · repeat' (first | exact rfl | ((first | with_reducible refine bok ?_ | with_reducible refine Side.mk ?_); omega) | constructor)
    · exact rfl
    apply Trip.cond (.tmp rfl)
    · intro h2
      have h2 : (s.take (i + t.length)).drop i = t := by
        have e2 : ((i : Int) + (t.length : Int)).toNat = i + t.length := by omega
        have h2 : (s.take ((i : Int) + (t.length : Int)).toNat).drop i = t := of_decide_eq_true h2
        rwa [e2] at h2
      rw [findS_some hi0 h hj (e.symm.trans h2)]
      refine Trip.seq ?_
      apply Trip.reg tblOk
      · repeat' (first | exact rfl | constructor)
      · exact rfl
      refine Trip.ret ?_
      apply Ret1 []
      · repeat' (first | exact rfl | constructor)
      · exact rfl
      · repeat' constructor
    intro h2
    have h2 : ¬ (s.drop i).take t.length = t := by
      have e2 : ((i : Int) + (t.length : Int)).toNat = i + t.length := by omega
      have h2 : ¬ (s.take ((i : Int) + (t.length : Int)).toNat).drop i = t := of_decide_eq_false h2
      rwa [e2, e] at h2
    refine Trip.skip ?_
    apply Trip.reg tblOk
    · repeat' (first | exact rfl | ((with_reducible refine Side.mk ?_); omega) | constructor)
    · exact rfl
    refine ⟨i + 1, ?_, ?_, ?_⟩
    · exact ⟨by omega, .inr (by omega), fun j h3 h4 => (Nat.lt_succ_iff_lt_or_eq.1 h4).elim (hj j h3) (fun e => e ▸ h2)⟩
    · first | omega | (dsimp only at *; omega)
    · apply Weak.keep
      · exact rfl
      · repeat' (first | exact rfl | constructor)
      · repeat' constructor
      · exact rfl
      · repeat' constructor
  intro h
  have h : ¬ i + t.length ≤ s.length := by simp at h; omega
  rw [findS_none ht fun j h1 h2 => hj j h1 (by omega)]
  refine Trip.exit ?_
  refine Trip.seq ?_
  apply Trip.reg tblOk
  · repeat' constructor
  · exact rfl
  refine Trip.ret ?_
  apply Ret1 []
  · repeat' (first | exact rfl | constructor)
  · exact rfl
  · repeat' constructor
end Go.Proofs.Tryz
