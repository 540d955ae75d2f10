/- A part of the proof: GTre, GZero, Hb, GTrf, GZon. -/
import Derived.Test.YtbnnmnbidkpmcaaGreatDoorPart29
set_option linter.unusedVariables false
set_option linter.unusedSimpArgs false
namespace Go.Graft
open Go.Sym
theorem modeP_eq (m : Nat) (h1 : 1 ≤ m) (h2 : m ≤ 4) : modeP (m : Int) = modeD (m : Int) := by
 obtain rfl | rfl | rfl | rfl : m = 1 ∨ m = 2 ∨ m = 3 ∨ m = 4 := by omega
 all_goals decide
theorem modeD_len (m : Nat) (h1 : 1 ≤ m) (h2 : m ≤ 4) : (modeD (m : Int)).length ≤ 7 := by
 obtain rfl | rfl | rfl | rfl : m = 1 ∨ m = 2 ∨ m = 3 ∨ m = 4 := by omega
 all_goals decide
theorem modeOf_hit {s : Str} {m : Nat} (h1 : 1 ≤ m) (h2 : m ≤ 4) (hj : ∀ j : Nat, 1 ≤ j → j < m → Lib.hasPrefix s (modeD (j : Int)) = false) (h : Lib.hasPrefix s (modeD (m : Int)) = true) : modeOf s = (m : Int) := by
 have g1 : 1 < m → Lib.hasPrefix s (modeD 1) = false := hj 1 (by omega)
 have g2 : 2 < m → Lib.hasPrefix s (modeD 2) = false := hj 2 (by omega)
 have g3 : 3 < m → Lib.hasPrefix s (modeD 3) = false := hj 3 (by omega)
 obtain rfl | rfl | rfl | rfl : m = 1 ∨ m = 2 ∨ m = 3 ∨ m = 4 := by omega
 ·have h : Lib.hasPrefix s (modeD 1) = true := h
  rw [modeOf, if_pos h]; rfl
 ·have h : Lib.hasPrefix s (modeD 2) = true := h
  rw [modeOf, g1 (by omega), if_pos h]; rfl
 ·have h : Lib.hasPrefix s (modeD 3) = true := h
  rw [modeOf, g1 (by omega), g2 (by omega), if_pos h]; rfl
 ·have h : Lib.hasPrefix s (modeD 4) = true := h
  rw [modeOf, g1 (by omega), g2 (by omega), g3 (by omega), if_pos h]; rfl
def shortN (s : Str) : Nat → Bool
 | 0 => false
 | i + 1 => shortN s i || Lib.hasPrefix (modeD ((i + 1 : Nat) : Int)) s
theorem modeOf_no {s : Str} (hj : ∀ j : Nat, 1 ≤ j → j < 5 → Lib.hasPrefix s (modeD (j : Int)) = false) : modeOf s = if shortN s 4 = true then -1 else 0 := by
 have g1 : Lib.hasPrefix s (modeD 1) = false := hj 1 (by omega) (by omega)
 have g2 : Lib.hasPrefix s (modeD 2) = false := hj 2 (by omega) (by omega)
 have g3 : Lib.hasPrefix s (modeD 3) = false := hj 3 (by omega) (by omega)
 have g4 : Lib.hasPrefix s (modeD 4) = false := hj 4 (by omega) (by omega)
 rw [modeOf, g1, g2, g3, g4]
 simp only [shortN, Bool.false_or]
 rfl
theorem shortN_true {s : Str} {m : Nat} (h1 : 1 ≤ m) (h2 : m ≤ 4) (h : Lib.hasPrefix (modeD (m : Int)) s = true) : shortN s 4 = true := by
 have : ∀ k, m ≤ k → shortN s k = true := by
  intro k hk
  induction k with
  | zero => omega
  | succ k ih =>
   rw [shortN]
   by_cases e : m = k + 1
   ·subst e; rw [h, Bool.or_true]
   ·rw [ih (by omega), Bool.true_or]
 exact this 4 h2
theorem shortN_false {s : Str} (hj : ∀ j : Nat, 1 ≤ j → j < 5 → Lib.hasPrefix (modeD (j : Int)) s = false) : shortN s 4 = false := by
 have : ∀ k, k < 5 → shortN s k = false := by
  intro k hk
  induction k with
  | zero => rfl
  | succ k ih => rw [shortN, ih (by omega), hj (k + 1) (by omega) hk]; rfl
 exact this 4 (by omega)
theorem modeOf_cases (s : Str) : modeOf s = -1 ∨ modeOf s = 0 ∨ ∃ m : Nat, 1 ≤ m ∧ m ≤ 4 ∧ modeOf s = (m : Int) ∧ Lib.hasPrefix s (modeD (m : Int)) = true := by
 rw [modeOf]
 split
 ·rename_i h; exact .inr (.inr ⟨1, by omega, by omega, rfl, h⟩)
 split
 ·rename_i h; exact .inr (.inr ⟨2, by omega, by omega, rfl, h⟩)
 split
 ·rename_i h; exact .inr (.inr ⟨3, by omega, by omega, rfl, h⟩)
 split
 ·rename_i h; exact .inr (.inr ⟨4, by omega, by omega, rfl, h⟩)
 split
 ·exact .inl rfl
 ·exact .inr (.inl rfl)
theorem prefix_len {s p : Str} (h : Lib.hasPrefix s p = true) : p.length ≤ s.length := by
 rw [Lib.hasPrefix, List.isPrefixOf_iff_prefix] at h
 exact h.length_le
theorem begins_eq (s t : Str) : (decide ((t.length : Int) ≤ (s.length : Int)) && decide (s.take t.length = t)) = Lib.hasPrefix s t := by
 rw [Bool.eq_iff_iff]
 simp only [Bool.and_eq_true, decide_eq_true_eq, Lib.hasPrefix, List.isPrefixOf_iff_prefix]
 constructor
 ·intro h; rw [← h.2]; exact List.take_prefix _ _
 ·intro h; exact ⟨by have := h.length_le; omega, (List.prefix_iff_eq_take.1 h).symm⟩
def modeR (s : Str) : Str := if 1 ≤ modeOf s then s.drop (modeD (modeOf s)).length else []
def modeE (s : Str) : Int := if modeOf s = -1 then 3 else if modeOf s = 0 then 2 else 0
theorem modeR_len (s : Str) : (modeR s).length ≤ s.length := by
 rw [modeR]; split <;> simp
theorem oneE_mode {s : Str} (h : modeE s ≠ 0) : (oneE s).1 = modeE s := by
 rw [modeE] at h ⊢
 rw [oneE]
 by_cases h1 : modeOf s = -1
 ·rw [if_pos h1, if_pos h1]
 ·rw [if_neg h1, if_neg h1] at *
  by_cases h2 : modeOf s = 0
  ·rw [if_pos h2, if_pos h2]
  ·rw [if_neg h2] at h; exact absurd rfl h
theorem modeE_ok {s : Str} (h : modeE s = 0) : ∃ m : Nat, 1 ≤ m ∧ m ≤ 4 ∧ modeOf s = (m : Int) ∧ modeR s = s.drop (modeD (m : Int)).length ∧ (modeD (m : Int)).length ≤ s.length := by
 rcases modeOf_cases s with h1 | h1 | ⟨m, h1, h2, h3, h4⟩
 ·rw [modeE, if_pos h1] at h; simp at h
 ·rw [modeE, if_neg (by omega), if_pos h1] at h; simp at h
 ·exact ⟨m, h1, h2, h3, by rw [modeR, h3, if_pos (by omega)], prefix_len h4⟩
theorem cut_byte (r : Str) (c : UInt8) : Lib.cut r [c] = if 0 ≤ Lib.indexByte r c then (r.take (Lib.indexByte r c).toNat, r.drop ((Lib.indexByte r c).toNat + 1), true) else (r, [], false) := by
 rw [Lib.cut, index_one]; rfl
def cutBad (r : Str) : Bool := !(Lib.cut r [0]).2.2 || decide (((Lib.cut r [0]).2.1.length : Int) < 20)
theorem oneE_cut {s : Str} (h : modeE s = 0) : (oneE s).1 = (if cutBad (modeR s) = true then 3 else 0) ∧ (cutBad (modeR s) = false → (oneE s).2.1 = ⟨modeOf s, (Lib.cut (modeR s) [0]).1, hexOf ((Lib.cut (modeR s) [0]).2.1.take 20)⟩ ∧ (oneE s).2.2 = (Lib.cut (modeR s) [0]).2.1.drop 20 ∧ 20 ≤ (Lib.cut (modeR s) [0]).2.1.length) := by
 obtain ⟨m, h1, h2, h3, h4, h5⟩ := modeE_ok h
 rw [oneE, if_neg (by omega), if_neg (by omega), h3]
 simp only []
 rw [← h4, cutBad]
 generalize modeR s = r
 have hge := Lib.indexByte_ge r 0
 by_cases hk : Lib.indexByte r 0 < 0
 ·have hc : Lib.cut r [0] = (r, [], false) := by rw [cut_byte, if_neg (by omega)]
  rw [hc, if_pos hk]
  exact ⟨rfl, fun h => by simp at h⟩
 ·have hc : Lib.cut r [0] = (r.take (Lib.indexByte r 0).toNat, r.drop ((Lib.indexByte r 0).toNat + 1), true) := by rw [cut_byte, if_pos (by omega)]
  rw [hc, if_neg hk]
  simp only [Bool.not_true, Bool.false_or, decide_eq_true_eq, decide_eq_false_iff_not, List.length_drop]
  by_cases hl : r.length < (Lib.indexByte r 0).toNat + 21
  ·rw [if_pos hl, if_pos (by omega)]
   exact ⟨rfl, fun h => by omega⟩
  ·rw [if_neg hl, if_neg (by omega)]
   refine ⟨rfl, fun h => ⟨rfl, ?_, by omega⟩⟩
   rw [List.drop_drop]
def oneN (s : Str) : Nat := if (oneE s).1 = 0 then s.length - (oneE s).2.2.length else 0
def findBad (s : Str) : Bool := decide (findB s 0 (modeD (modeOf s)).length < 0) || decide ((s.length : Int) - findB s 0 (modeD (modeOf s)).length < 21)
theorem oneE_find {s : Str} (h : modeE s = 0) : (oneE s).1 = (if findBad s = true then 3 else 0) ∧ (findBad s = false → ∃ e : Nat, findB s 0 (modeD (modeOf s)).length = (e : Int) ∧ e + 21 ≤ s.length ∧ (modeD (modeOf s)).length ≤ e ∧ (oneE s).2.1 = ⟨modeOf s, (s.take e).drop (modeD (modeOf s)).length, hexOf ((s.take (e + 21)).drop (e + 1))⟩ ∧ (oneE s).2.2 = s.drop (e + 21) ∧ oneN s = e + 21) := by
 obtain ⟨m, h1, h2, h3, h4, h5⟩ := modeE_ok h
 have key : ∀ n : Nat, (modeD (modeOf s)).length = n → n ≤ s.length → (oneE s).1 = (if findBad s = true then 3 else 0) ∧ (findBad s = false → ∃ e : Nat, findB s 0 n = (e : Int) ∧ e + 21 ≤ s.length ∧ n ≤ e ∧ (oneE s).2.1 = ⟨modeOf s, (s.take e).drop n, hexOf ((s.take (e + 21)).drop (e + 1))⟩ ∧ (oneE s).2.2 = s.drop (e + 21) ∧ oneN s = e + 21) := by
  intro n hn hle
  rw [oneN, oneE, if_neg (by omega), if_neg (by omega), findBad, hn, findB]
  simp only []
  have hge := Lib.indexByte_ge (s.drop n) 0
  have hl0 : (s.drop n).length = s.length - n := List.length_drop
  by_cases hk : Lib.indexByte (s.drop n) 0 < 0
  ·rw [if_pos hk, if_pos hk]
   exact ⟨rfl, fun h => by simp at h⟩
  ·rw [if_neg hk, if_neg hk]
   generalize hkk : (Lib.indexByte (s.drop n) 0).toNat = k
   have hk2 : Lib.indexByte (s.drop n) 0 = (k : Int) := by omega
   rw [hk2, hl0]
   by_cases hl : s.length - n < k + 21
   ·rw [if_pos hl]
    have : (decide ((n : Int) + (k : Int) < 0) || decide ((s.length : Int) - ((n : Int) + (k : Int)) < 21)) = true := by
     rw [Bool.or_eq_true]; exact .inr (decide_eq_true (by omega))
    rw [this]
    exact ⟨rfl, fun h => by simp at h⟩
   ·rw [if_neg hl]
    have : (decide ((n : Int) + (k : Int) < 0) || decide ((s.length : Int) - ((n : Int) + (k : Int)) < 21)) = false := by
     rw [Bool.or_eq_false_iff]; exact ⟨decide_eq_false (by omega), decide_eq_false (by omega)⟩
    rw [this]
    refine ⟨rfl, fun _ => ⟨n + k, by omega, by omega, by omega, ?_, ?_, ?_⟩⟩
    ·simp only [En.mk.injEq, true_and]
     refine ⟨?_, ?_⟩
     ·rw [List.drop_take, Nat.add_sub_cancel_left]
     ·rw [List.drop_take, List.drop_drop, show n + k + 21 - (n + k + 1) = 20 by omega, show n + (k + 1) = n + k + 1 by omega]
    ·show (s.drop n).drop (k + 21) = s.drop (n + k + 21)
     rw [List.drop_drop, show n + (k + 21) = n + k + 21 by omega]
    ·rw [if_pos rfl, List.length_drop, hl0]; omega
 exact key _ rfl (by rw [h3]; exact h5)
def cntN (l : List Str) : Nat → List Str × List Int
 | 0 => ([], [])
 | i + 1 => (mkeys (cntN l i).1 l[i]!, mset (cntN l i).1 (cntN l i).2 l[i]! (mval (cntN l i).1 (cntN l i).2 0 l[i]! + 1))
theorem cntN_len (l : List Str) : ∀ i, (cntN l i).1.length = (cntN l i).2.length
 | 0 => rfl
 | i + 1 => mkeys_length _ _ _ _ (cntN_len l i)
theorem cntN_val (l : List Str) (y : Str) : ∀ i, i ≤ l.length → mval (cntN l i).1 (cntN l i).2 0 y = (((l.take i).count y : Nat) : Int)
 | 0, _ => by simp [cntN, mval, kidx]
 | i + 1, h => by
  have ih := cntN_val l y i (by omega)
  rw [cntN]
  simp only []
  rw [mval_mset _ _ _ _ _ _ (cntN_len l i), take_snoc l i (by omega), List.count_append]
  by_cases e : l[i]! = y
  ·subst e
   rw [if_pos rfl, ih]
   simp
  ·rw [if_neg e, ih]
   have : [l[i]!].count y = 0 := by rw [List.count_eq_zero, List.mem_singleton]; exact fun h => e h.symm
   rw [this]; rfl
theorem cntN_dup (l : List Str) (i : Nat) (h : i < l.length) : decide (1 < mval (cntN l (i + 1)).1 (cntN l (i + 1)).2 0 l[i]!) = hasS (l.take i) l[i]! := by
 rw [cntN_val l _ (i + 1) (by omega), take_snoc l i h, List.count_append, hasS]
 refine decide_eq_decide.2 ?_
 have : [l[i]!].count l[i]! = 1 := by simp
 rw [this, ← List.count_pos_iff]
 omega
def entBad2 (l : List En) (i : Nat) : Bool := decide (0 < (i : Int)) && !Op.bytesLess l[i - 1]!.key l[i]!.key
theorem entE_may {l : List En} {i : Nat} (h : mayE l[i]! = false) : entE l i = 1 := by rw [entE, if_pos h]
theorem entE_sort {l : List En} {i : Nat} (h : mayE l[i]! = true) (h2 : entBad2 l i = true) : entE l i = 150 := by
 rw [entE, if_neg (by rw [h]; simp), if_pos]
 simp only [entBad2, Bool.and_eq_true, decide_eq_true_eq, Bool.not_eq_true'] at h2
 exact ⟨by omega, h2.2⟩
theorem entE_dup {l : List En} {i : Nat} (h : mayE l[i]! = true) (h2 : entBad2 l i = false) : entE l i = if hasS ((l.take i).map En.name) l[i]!.name = true then 6 else 0 := by
 rw [entE, if_neg (by rw [h]; simp), if_neg]
 intro h3
 have : entBad2 l i = true := by
  simp only [entBad2, Bool.and_eq_true, decide_eq_true_eq, Bool.not_eq_true']
  exact ⟨by omega, h3.2⟩
 rw [this] at h2; simp at h2
theorem checkE_stop {l : List En} {i : Nat} {e : Int} (hl : l.length ≤ 1024) (h : i < l.length) (hj : ∀ j, j < i → entE l j = 0) (he : entE l i = e) (h0 : e ≠ 0) : checkE l = e := by
 rw [checkE, if_neg (by omega), firstE_stop h hj (by rw [he]; exact h0), he]
theorem checkE_ok {l : List En} (hl : l.length ≤ 1024) (hj : ∀ j, j < l.length → entE l j = 0) : checkE l = 0 := by
 rw [checkE, if_neg (by omega), firstE_zero hj]
theorem map_bang {α β : Type} [Inhabited α] [Inhabited β] (f : α → β) (l : List α) (i : Nat) (h : i < l.length) : (l.map f)[i]! = f l[i]! := by
 rw [getElem!_pos _ i (by simpa using h), getElem!_pos l i h, List.getElem_map]
end Go.Graft
namespace Go.Proofs.Tryz
open Go Go.Sym
theorem zInt : ∀ w, (zeroValue 3).run Tryz.prog w = .ok (.int .i64 0) w := fun w => by kernel_rfl
theorem zBool : ∀ w, (zeroValue 4).run Tryz.prog w = .ok (.bool false) w := fun w => by kernel_rfl
end Go.Proofs.Tryz
namespace Go.Proofs.Tryz
open Go Go.Sym Go.Graft
set_option maxRecDepth 20000
theorem cMay (x : En) (hn : x.name.length ≤ 1000000000) (hi : x.id.length ≤ 1000000000) : Ctr prog 146 [x.pv] [] (bV (mayE x)) [] [] := by
 have c1 := cPathIs x.name
 have c2 := sContains x.name [47] (by omega)
 have c3 := cIs x.id (by omega)
 have e : mayE x = (decide (1 ≤ x.mode) && decide (x.mode ≤ 4) && pathOk x.name && !Lib.contains x.name [47] && isId x.id) := by
  have : decide (Lib.indexByte x.name 47 < 0) = !Lib.contains x.name [47] := by
   rw [Lib.contains, index_one, ← decide_not]; exact decide_eq_decide.2 (by omega)
  rw [mayE, this]
 rw [e]
 generalize pathOk x.name = a at *
 generalize Lib.contains x.name [47] = b at *
 generalize isId x.id = d at *
 refine Ctr.enter tblOk func146 rfl (by decide) rfl (nt := 27) rfl rfl rfl rfl ?_
 refine Trip.sr tblOk ?_
 refine Trip.sR tblOk (by repeat' (first | exact rfl | (apply Rule.sem; intro hγ; with_reducible apply F_call0 (x := .func 180) (B := []) hγ (hspec := c1)) | (apply Rule.sem; intro hγ; with_reducible apply F_call0 (x := .func 153) (B := []) hγ (hspec := c2)) | (apply Rule.sem; intro hγ; with_reducible apply F_call0 (x := .func 148) (B := []) hγ (hspec := c3)) | ((with_reducible refine Side.mk ?_); first | exact .inl rfl | exact fun h => h | exact fun _ h => h) | constructor)) ?_
 refine Trip.ret (rt1 [] (hc := by repeat' (exact cvB (by simp only [List.length_map]))))
theorem cMay15 (x : En) (hn : x.name.length ≤ 1000000000) (hi : x.id.length ≤ 1000000000) : Ctr prog 131 [x.pv] [] (bV (mayE x)) [] [] := by
 have c1 := cIs6 x.name (by omega)
 have c2 := cFind14 x.name 47 0 (by omega) (Nat.zero_le _)
 have c3 := cIs2 x.id (by omega)
 have hf : findB x.name 47 0 = Lib.indexByte x.name 47 := by
  have := Lib.indexByte_ge x.name 47
  rw [findB, List.drop_zero]
  split <;> omega
 rw [hf] at c2
 have e : mayE x = (decide (1 ≤ x.mode) && decide (x.mode ≤ 4) && pathOk x.name && decide (Lib.indexByte x.name 47 < 0) && isId x.id) := rfl
 rw [e]
 generalize pathOk x.name = a at *
 generalize Lib.indexByte x.name 47 = b at *
 generalize isId x.id = d at *
 refine Ctr.enter tblOk func131 rfl (by decide) rfl (nt := 27) rfl rfl rfl rfl ?_
 refine Trip.sr tblOk ?_
 refine Trip.sR tblOk (by repeat' (first | exact rfl | (apply Rule.sem; intro hγ; with_reducible apply F_call0 (x := .func 160) (B := []) hγ (hspec := c1)) | (apply Rule.sem; intro hγ; with_reducible apply F_call0 (x := .func 130) (B := []) hγ (hspec := c2)) | (apply Rule.sem; intro hγ; with_reducible apply F_call0 (x := .func 88) (B := []) hγ (hspec := c3)) | ((with_reducible refine Side.mk ?_); first | exact .inl rfl | exact fun h => h | exact fun _ h => h) | constructor)) ?_
 refine Trip.ret (rt1 [] (hc := by repeat' (exact cvB (by simp only [List.length_map]))))
theorem cBegins (s t : Str) (hs : s.length ≤ 1000000000000) (ht : t.length ≤ 1000000000000) : Ctr prog 159 [sV s, sV t] [] (bV (Lib.hasPrefix s t)) [] [] := by
 rw [← begins_eq]
 refine Ctr.enter tblOk func159 rfl (by decide) rfl (nt := 18) rfl rfl rfl rfl ?_
 refine Trip.sr tblOk ?_
 refine Trip.sR tblOk (by repeat' (first | exact rfl | (apply Rule.under tblOk; intro hγ; with_reducible apply Rule.slice) | ((first | with_reducible refine bokR ?_ | with_reducible refine Side.mk ?_); first | exact fun h => h | exact fun _ h => h | exact fun _ => hγ | (have h2 := hγ; simp only [gpick, cond_true, cond_false, decide_eq_true_eq, Bool.and_eq_true, Bool.or_eq_true, Bool.not_eq_true', Bool.not_eq_false', Bool.or_eq_false_iff, decide_eq_false_iff_not, List.length_map] at h2; (try simp only [List.length_map]); omega)) | constructor)) ?_
 refine Trip.ret (rt1 [])
theorem cMode15 (s : Str) (hs : s.length ≤ 1000000000) : Ctr prog 128 [sV s] [] (iV (modeOf s)) [] [] := by
 have c1 := fun m : Nat => cDig15 m
 have c2 := fun (m : Nat) (h1 : 1 ≤ m) (h2 : m ≤ 4) => cBegins s (modeD m) (by omega) (by have := modeD_len m h1 h2; omega)
 have c3 := fun (m : Nat) (h1 : 1 ≤ m) (h2 : m ≤ 4) => cBegins (modeD m) s (by have := modeD_len m h1 h2; omega) (by omega)
 refine Ctr.enter tblOk func128 rfl (by decide) rfl (nt := 22) rfl rfl rfl rfl ?_
 refine Trip.sr tblOk ?_
 refine Trip.seq (Trip.sr tblOk ?_)
 refine Trip.block ?_
 refine Trip.loop (fun (m : Nat) => ⟨[(0, sV s), (3, iV m)], []⟩) (fun (m : Nat) => 1 ≤ m ∧ m ≤ 5 ∧ ∀ j : Nat, 1 ≤ j → j < m → Lib.hasPrefix s (modeD (j : Int)) = false) (fun (m : Nat) => 5 - m) (1) (by exact ⟨Nat.le_refl _, by omega, fun j h1 h2 => absurd h1 (by omega)⟩) Weak.kp ?_
 intro m hm
 obtain ⟨h1, h2, hj⟩ := hm
 refine Trip.seq (Trip.sr tblOk ?_)
 apply Trip.cond (.tmp rfl)
 ·intro h
  have h : m ≤ 4 := by simp at h; omega
  have c1 := c1 m
  have c2 := c2 m h1 h
  have hd := fun (hp : Lib.hasPrefix s (modeD (m : Int)) = true) => modeOf_hit h1 h hj hp
  have hd2 := fun (hp : Lib.hasPrefix s (modeD (m : Int)) = false) (j : Nat) (h3 : 1 ≤ j) (h4 : j < m + 1) => (Nat.lt_succ_iff_lt_or_eq.1 h4).elim (hj j h3) (fun e => e ▸ hp)
  generalize hpp : Lib.hasPrefix s (modeD (m : Int)) = p at c2 hd hd2
  generalize modeD (m : Int) = d at c1 c2
  refine Trip.skip (Trip.seq (Trip.block (Trip.sR tblOk (by repeat' (first | exact rfl | (apply Rule.sem; intro hγ; with_reducible apply F_call0 (x := .func 129) (B := []) hγ (hspec := c1)) | (apply Rule.sem; intro hγ; with_reducible apply F_call0 (x := .func 159) (B := []) hγ (hspec := c2)) | ((with_reducible refine Side.mk ?_); exact .inl rfl) | constructor)) ?_)))
  apply Trip.cond (.tmp rfl)
  ·intro h3
   have h3 : p = true := by simpa using h3
   rw [hd h3]
   refine Trip.sr tblOk ?_
   refine Trip.ret (rt1 [])
  intro h3
  have h3 : p = false := by simpa using h3
  refine Trip.skip (Trip.R tblOk (by repeat' (first | exact rfl | ((with_reducible refine Side.mk ?_); omega) | constructor)) ?_)
  exact ⟨m + 1, by exact ⟨by omega, by omega, hd2 h3⟩, by first | omega | (dsimp only at *; omega), Weak.kp⟩
 intro h
 have h : m = 5 := by simp at h; omega
 subst h
 refine Trip.exit ?_
 rw [modeOf_no hj]
 refine Trip.seq (Trip.sr tblOk ?_)
 refine Trip.block ?_
 refine Trip.loop (fun (m : Nat) => ⟨[(0, sV s), (4, iV m)], []⟩) (fun (m : Nat) => 1 ≤ m ∧ m ≤ 5 ∧ ∀ j : Nat, 1 ≤ j → j < m → Lib.hasPrefix (modeD (j : Int)) s = false) (fun (m : Nat) => 5 - m) (1) (by exact ⟨Nat.le_refl _, by omega, fun j h1 h2 => absurd h1 (by omega)⟩) Weak.kp ?_
 intro m hm
 obtain ⟨h1, h2, hj⟩ := hm
 refine Trip.seq (Trip.sr tblOk ?_)
 apply Trip.cond (.tmp rfl)
 ·intro h
  have h : m ≤ 4 := by simp at h; omega
  have c1 := c1 m
  have c3 := c3 m h1 h
  have hd := fun (hp : Lib.hasPrefix (modeD (m : Int)) s = true) => shortN_true h1 h hp
  have hd2 := fun (hp : Lib.hasPrefix (modeD (m : Int)) s = false) (j : Nat) (h3 : 1 ≤ j) (h4 : j < m + 1) => (Nat.lt_succ_iff_lt_or_eq.1 h4).elim (hj j h3) (fun e => e ▸ hp)
  generalize hpp : Lib.hasPrefix (modeD (m : Int)) s = p at c3 hd hd2
  generalize modeD (m : Int) = d at c1 c3
  refine Trip.skip (Trip.seq (Trip.block (Trip.sR tblOk (by repeat' (first | exact rfl | (apply Rule.sem; intro hγ; with_reducible apply F_call0 (x := .func 129) (B := []) hγ (hspec := c1)) | (apply Rule.sem; intro hγ; with_reducible apply F_call0 (x := .func 159) (B := []) hγ (hspec := c3)) | ((with_reducible refine Side.mk ?_); exact .inl rfl) | constructor)) ?_)))
  apply Trip.cond (.tmp rfl)
  ·intro h3
   have h3 : p = true := by simpa using h3
   rw [if_pos (hd h3)]
   refine Trip.sr tblOk ?_
   refine Trip.ret (rt1 [])
  intro h3
  have h3 : p = false := by simpa using h3
  refine Trip.skip (Trip.R tblOk (by repeat' (first | exact rfl | ((with_reducible refine Side.mk ?_); omega) | constructor)) ?_)
  exact ⟨m + 1, by exact ⟨by omega, by omega, hd2 h3⟩, by first | omega | (dsimp only at *; omega), Weak.kp⟩
 intro h
 have h : m = 5 := by simp at h; omega
 subst h
 refine Trip.exit ?_
 rw [shortN_false hj]
 refine Trip.sr tblOk ?_
 refine Trip.ret (rt1 [])
end Go.Proofs.Tryz
namespace Go.Graft
open Go.Sym
theorem vT {a b : Str} (h : a = b) : sV a = sV b := by rw [h]
theorem oneE_len (s : Str) : (oneE s).2.1.name.length ≤ s.length ∧ (oneE s).2.1.id.length ≤ 40 := by
 rw [oneE]
 split
 ·simp
 split
 ·simp
 simp only []
 split
 ·simp
 split
 ·simp
 ·refine ⟨?_, ?_⟩
  ·simp only [List.length_take, List.length_drop]; omega
  ·rw [hexOf_len]; simp only [List.length_take]; omega
def Reads (s : Str) (x : Str × List En) : Prop := entsA x.1 x.2 = entsA s [] ∧ x.2.length + x.1.length ≤ s.length ∧ ∀ e ∈ x.2, e.name.length ≤ 1000000000 ∧ e.id.length ≤ 1000000000
theorem reads_zero (s : Str) : Reads s (s, []) := ⟨rfl, by simp, by simp⟩
theorem reads_next {s t : Str} {acc : List En} (hs : s.length ≤ 1000000000) (h : Reads s (t, acc)) (ht : t ≠ []) (h1 : (oneE t).1 = 0) : Reads s ((oneE t).2.2, acc ++ [(oneE t).2.1]) := by
 obtain ⟨g1, g2, g3⟩ := h
 have h2 := oneE_short h1
 have h3 := oneE_len t
 refine ⟨(entsA_one ht h1).symm.trans g1, by simp only [List.length_append, List.length_singleton] at *; omega, fun e he => ?_⟩
 rcases List.mem_append.1 he with he | he
 ·exact g3 e he
 ·rw [List.mem_singleton.1 he]; simp only at g2; omega
theorem treeOf_err {s t : Str} {acc : List En} (h : Reads s (t, acc)) (ht : t ≠ []) (h1 : (oneE t).1 ≠ 0) : treeOf s = ((oneE t).1, []) := by
 have := h.1
 rw [entsA_err ht h1] at this
 rw [treeOf, ← this, if_pos h1]
theorem treeOf_end {s : Str} {acc : List En} (h : Reads s ([], acc)) : treeOf s = if checkE acc ≠ 0 then (checkE acc, []) else (0, acc) := by
 have := h.1
 rw [entsA_nil] at this
 rw [treeOf, ← this, if_neg (by simp)]
theorem drop_all (s : Str) (n : Nat) : (s.take s.length).drop n = s.drop n := by rw [List.take_length]
theorem oneN_rest {t : Str} (h1 : (oneE t).1 = 0) : t.drop (oneN t) = (oneE t).2.2 ∧ oneN t ≤ t.length := by
 have hm : modeE t = 0 := by
  cases h : decide (modeE t = 0) with
  | true => simpa using h
  | false => have h : modeE t ≠ 0 := by simpa using h
             have := oneE_mode h; omega
 have hf := oneE_find hm
 have hb : findBad t = false := by
  cases h : findBad t with
  | false => rfl
  | true => rw [h] at hf; have := hf.1; simp at this; omega
 obtain ⟨e, _, h2, _, _, h5, h6⟩ := hf.2 hb
 rw [h6, h5]; exact ⟨rfl, h2⟩
theorem cntN_step (l : List En) (i : Nat) (h : i < l.length) : cntN (l.map En.name) (i + 1) = (mkeys (cntN (l.map En.name) i).1 l[i]!.name, mset (cntN (l.map En.name) i).1 (cntN (l.map En.name) i).2 l[i]!.name (mval (cntN (l.map En.name) i).1 (cntN (l.map En.name) i).2 0 l[i]!.name + 1)) := by
 rw [cntN, map_bang _ _ _ h]
theorem cntN_bound (l : List Str) (y : Str) (i : Nat) (h : i ≤ l.length) : 0 ≤ mval (cntN l i).1 (cntN l i).2 0 y ∧ mval (cntN l i).1 (cntN l i).2 0 y ≤ l.length := by
 rw [cntN_val l y i h]
 have h1 : (l.take i).count y ≤ (l.take i).length := List.count_le_length
 rw [List.length_take] at h1
 omega
end Go.Graft
namespace Go.Graft
open Go.Sym
theorem zonBad_len {s : Str} (h : zonBad s = false) : s.length = 5 := by
 simp only [zonBad, Bool.or_eq_false_iff, decide_eq_false_iff_not] at h
 omega
theorem zonOk_bad {s : Str} (h : zonBad s = true) : zonOk s = false := by rw [zonOk, h]; rfl
theorem getD_drop1 (s : Str) (j : Nat) : (s.drop 1).getD j 0 = s.getD (j + 1) 0 := by rw [getD_drop, Nat.add_comm]
theorem zonOk_dig {s : Str} {i : Nat} (hl : s.length = 5) (h1 : 1 ≤ i) (h : i < 5) (hp : badD (s.getD i 0) = true) : zonOk s = false := by
 rw [zonOk, all_false (p := fun c => !badD c) (s := s.drop 1) (i := i - 1) (by rw [List.length_drop]; omega) (by rw [getD_drop1, show i - 1 + 1 = i by omega, hp]; rfl), Bool.and_false, Bool.false_and]
theorem zonOk_end {s : Str} (hb : zonBad s = false) (h : ∀ i, 1 ≤ i → i < 5 → badD (s.getD i 0) = false) : zonOk s = decide (zonM s < 60) := by
 have hl := zonBad_len hb
 rw [zonOk, hb, all_true (p := fun c => !badD c) fun i hi => by
  rw [List.length_drop] at hi
  rw [getD_drop1, h (i + 1) (by omega) (by omega)]; rfl]
 rfl
theorem zon_digs {s : Str} (hl : s.length = 5) (h : ∀ i, 1 ≤ i → i < 5 → badD (s.getD i 0) = false) : (∀ c ∈ s.drop 3, badD c = false) ∧ ∀ c ∈ (s.drop 1).take 2, badD c = false := by
 have key : ∀ c ∈ s.drop 1, badD c = false := by
  intro c hc
  obtain ⟨i, hi, rfl⟩ := List.getElem_of_mem hc
  rw [List.length_drop] at hi
  have := h (i + 1) (by omega) (by omega)
  rw [List.getElem_drop]
  rw [List.getD_eq_getElem?_getD, List.getElem?_eq_getElem (by omega)] at this
  simpa [Nat.add_comm] using this
 refine ⟨fun c hc => key c ?_, fun c hc => key c (List.mem_of_mem_take hc)⟩
 have : s.drop 3 = (s.drop 1).drop 2 := by rw [List.drop_drop]
 rw [this] at hc
 exact List.mem_of_mem_drop hc
theorem zon_vals {s : Str} (hl : s.length = 5) (h : ∀ i, 1 ≤ i → i < 5 → badD (s.getD i 0) = false) : 0 ≤ zonM s ∧ zonM s < 100 ∧ 0 ≤ zonH s ∧ zonH s < 100 := by
 obtain ⟨h1, h2⟩ := zon_digs hl h
 have h3 := valD_lt h1 2 (by rw [List.length_drop]; omega)
 have h4 := valD_lt h2 2 (by rw [List.length_take]; omega)
 rw [zonM, zonH]
 omega
theorem valD_le {s : Str} (hl : s.length ≤ 18) (h : ∀ c ∈ s, badD c = false) (i : Nat) (hi : i < s.length) : valD (s.take i) < 100000000000000000 := by
 have := valD_lt (s := s.take i) (fun c hc => h c (List.mem_of_mem_take hc)) 17 (by rw [List.length_take]; omega)
 omega
end Go.Graft
