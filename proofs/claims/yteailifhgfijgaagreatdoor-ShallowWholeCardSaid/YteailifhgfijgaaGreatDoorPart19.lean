/- A part of the proof: GTre, GTrf, GHof, GWhl. -/
import Derived.Test.YteailifhgfijgaaGreatDoorPart18
set_option linter.unusedVariables false
set_option linter.unusedSimpArgs false
namespace Go.Graft
open Go.Sym
theorem modeP_eq (m : Nat) (h1 : 1 ≤ m) (h2 : m ≤ 4) : modeP (m : Int) = modeD (m : Int) := by
 obtain rfl | rfl | rfl | rfl : m = 1 ∨ m = 2 ∨ m = 3 ∨ m = 4 := by omega
 all_goals decide
theorem modeD_len (m : Nat) (h1 : 1 ≤ m) (h2 : m ≤ 4) : (modeD (m : Int)).length ≤ 7 := by
 obtain rfl | rfl | rfl | rfl : m = 1 ∨ m = 2 ∨ m = 3 ∨ m = 4 := by omega
 all_goals decide
theorem modeOf_hit {s : Str} {m : Nat} (h1 : 1 ≤ m) (h2 : m ≤ 4) (hj : ∀ j : Nat, 1 ≤ j → j < m → Lib.hasPrefix s (modeD (j : Int)) = false) (h : Lib.hasPrefix s (modeD (m : Int)) = true) : modeOf s = (m : Int) := by
 have g1 : 1 < m → Lib.hasPrefix s (modeD 1) = false := hj 1 (by omega)
 have g2 : 2 < m → Lib.hasPrefix s (modeD 2) = false := hj 2 (by omega)
 have g3 : 3 < m → Lib.hasPrefix s (modeD 3) = false := hj 3 (by omega)
 obtain rfl | rfl | rfl | rfl : m = 1 ∨ m = 2 ∨ m = 3 ∨ m = 4 := by omega
 ·have h : Lib.hasPrefix s (modeD 1) = true := h
  rw [modeOf, if_pos h]; rfl
 ·have h : Lib.hasPrefix s (modeD 2) = true := h
  rw [modeOf, g1 (by omega), if_pos h]; rfl
 ·have h : Lib.hasPrefix s (modeD 3) = true := h
  rw [modeOf, g1 (by omega), g2 (by omega), if_pos h]; rfl
 ·have h : Lib.hasPrefix s (modeD 4) = true := h
  rw [modeOf, g1 (by omega), g2 (by omega), g3 (by omega), if_pos h]; rfl
def shortN (s : Str) : Nat → Bool
 | 0 => false
 | i + 1 => shortN s i || Lib.hasPrefix (modeD ((i + 1 : Nat) : Int)) s
theorem modeOf_no {s : Str} (hj : ∀ j : Nat, 1 ≤ j → j < 5 → Lib.hasPrefix s (modeD (j : Int)) = false) : modeOf s = if shortN s 4 = true then -1 else 0 := by
 have g1 : Lib.hasPrefix s (modeD 1) = false := hj 1 (by omega) (by omega)
 have g2 : Lib.hasPrefix s (modeD 2) = false := hj 2 (by omega) (by omega)
 have g3 : Lib.hasPrefix s (modeD 3) = false := hj 3 (by omega) (by omega)
 have g4 : Lib.hasPrefix s (modeD 4) = false := hj 4 (by omega) (by omega)
 rw [modeOf, g1, g2, g3, g4]
 simp only [shortN, Bool.false_or]
 rfl
theorem shortN_true {s : Str} {m : Nat} (h1 : 1 ≤ m) (h2 : m ≤ 4) (h : Lib.hasPrefix (modeD (m : Int)) s = true) : shortN s 4 = true := by
 have : ∀ k, m ≤ k → shortN s k = true := by
  intro k hk
  induction k with
  | zero => omega
  | succ k ih =>
   rw [shortN]
   by_cases e : m = k + 1
   ·subst e; rw [h, Bool.or_true]
   ·rw [ih (by omega), Bool.true_or]
 exact this 4 h2
theorem shortN_false {s : Str} (hj : ∀ j : Nat, 1 ≤ j → j < 5 → Lib.hasPrefix (modeD (j : Int)) s = false) : shortN s 4 = false := by
 have : ∀ k, k < 5 → shortN s k = false := by
  intro k hk
  induction k with
  | zero => rfl
  | succ k ih => rw [shortN, ih (by omega), hj (k + 1) (by omega) hk]; rfl
 exact this 4 (by omega)
theorem modeOf_cases (s : Str) : modeOf s = -1 ∨ modeOf s = 0 ∨ ∃ m : Nat, 1 ≤ m ∧ m ≤ 4 ∧ modeOf s = (m : Int) ∧ Lib.hasPrefix s (modeD (m : Int)) = true := by
 rw [modeOf]
 split
 ·rename_i h; exact .inr (.inr ⟨1, by omega, by omega, rfl, h⟩)
 split
 ·rename_i h; exact .inr (.inr ⟨2, by omega, by omega, rfl, h⟩)
 split
 ·rename_i h; exact .inr (.inr ⟨3, by omega, by omega, rfl, h⟩)
 split
 ·rename_i h; exact .inr (.inr ⟨4, by omega, by omega, rfl, h⟩)
 split
 ·exact .inl rfl
 ·exact .inr (.inl rfl)
theorem prefix_len {s p : Str} (h : Lib.hasPrefix s p = true) : p.length ≤ s.length := by
 rw [Lib.hasPrefix, List.isPrefixOf_iff_prefix] at h
 exact h.length_le
theorem begins_eq (s t : Str) : (decide ((t.length : Int) ≤ (s.length : Int)) && decide (s.take t.length = t)) = Lib.hasPrefix s t := by
 rw [Bool.eq_iff_iff]
 simp only [Bool.and_eq_true, decide_eq_true_eq, Lib.hasPrefix, List.isPrefixOf_iff_prefix]
 constructor
 ·intro h; rw [← h.2]; exact List.take_prefix _ _
 ·intro h; exact ⟨by have := h.length_le; omega, (List.prefix_iff_eq_take.1 h).symm⟩
def modeR (s : Str) : Str := if 1 ≤ modeOf s then s.drop (modeD (modeOf s)).length else []
def modeE (s : Str) : Int := if modeOf s = -1 then 3 else if modeOf s = 0 then 2 else 0
theorem modeR_len (s : Str) : (modeR s).length ≤ s.length := by
 rw [modeR]; split <;> simp
theorem oneE_mode {s : Str} (h : modeE s ≠ 0) : (oneE s).1 = modeE s := by
 rw [modeE] at h ⊢
 rw [oneE]
 by_cases h1 : modeOf s = -1
 ·rw [if_pos h1, if_pos h1]
 ·rw [if_neg h1, if_neg h1] at *
  by_cases h2 : modeOf s = 0
  ·rw [if_pos h2, if_pos h2]
  ·rw [if_neg h2] at h; exact absurd rfl h
theorem modeE_ok {s : Str} (h : modeE s = 0) : ∃ m : Nat, 1 ≤ m ∧ m ≤ 4 ∧ modeOf s = (m : Int) ∧ modeR s = s.drop (modeD (m : Int)).length ∧ (modeD (m : Int)).length ≤ s.length := by
 rcases modeOf_cases s with h1 | h1 | ⟨m, h1, h2, h3, h4⟩
 ·rw [modeE, if_pos h1] at h; simp at h
 ·rw [modeE, if_neg (by omega), if_pos h1] at h; simp at h
 ·exact ⟨m, h1, h2, h3, by rw [modeR, h3, if_pos (by omega)], prefix_len h4⟩
theorem cut_byte (r : Str) (c : UInt8) : Lib.cut r [c] = if 0 ≤ Lib.indexByte r c then (r.take (Lib.indexByte r c).toNat, r.drop ((Lib.indexByte r c).toNat + 1), true) else (r, [], false) := by
 rw [Lib.cut, index_one]; rfl
def cutBad (r : Str) : Bool := !(Lib.cut r [0]).2.2 || decide (((Lib.cut r [0]).2.1.length : Int) < 20)
theorem oneE_cut {s : Str} (h : modeE s = 0) : (oneE s).1 = (if cutBad (modeR s) = true then 3 else 0) ∧ (cutBad (modeR s) = false → (oneE s).2.1 = ⟨modeOf s, (Lib.cut (modeR s) [0]).1, hexOf ((Lib.cut (modeR s) [0]).2.1.take 20)⟩ ∧ (oneE s).2.2 = (Lib.cut (modeR s) [0]).2.1.drop 20 ∧ 20 ≤ (Lib.cut (modeR s) [0]).2.1.length) := by
 obtain ⟨m, h1, h2, h3, h4, h5⟩ := modeE_ok h
 rw [oneE, if_neg (by omega), if_neg (by omega), h3]
 simp only []
 rw [← h4, cutBad]
 generalize modeR s = r
 have hge := Lib.indexByte_ge r 0
 by_cases hk : Lib.indexByte r 0 < 0
 ·have hc : Lib.cut r [0] = (r, [], false) := by rw [cut_byte, if_neg (by omega)]
  rw [hc, if_pos hk]
  exact ⟨rfl, fun h => by simp at h⟩
 ·have hc : Lib.cut r [0] = (r.take (Lib.indexByte r 0).toNat, r.drop ((Lib.indexByte r 0).toNat + 1), true) := by rw [cut_byte, if_pos (by omega)]
  rw [hc, if_neg hk]
  simp only [Bool.not_true, Bool.false_or, decide_eq_true_eq, decide_eq_false_iff_not, List.length_drop]
  by_cases hl : r.length < (Lib.indexByte r 0).toNat + 21
  ·rw [if_pos hl, if_pos (by omega)]
   exact ⟨rfl, fun h => by omega⟩
  ·rw [if_neg hl, if_neg (by omega)]
   refine ⟨rfl, fun h => ⟨rfl, ?_, by omega⟩⟩
   rw [List.drop_drop]
def oneN (s : Str) : Nat := if (oneE s).1 = 0 then s.length - (oneE s).2.2.length else 0
def findBad (s : Str) : Bool := decide (findB s 0 (modeD (modeOf s)).length < 0) || decide ((s.length : Int) - findB s 0 (modeD (modeOf s)).length < 21)
theorem oneE_find {s : Str} (h : modeE s = 0) : (oneE s).1 = (if findBad s = true then 3 else 0) ∧ (findBad s = false → ∃ e : Nat, findB s 0 (modeD (modeOf s)).length = (e : Int) ∧ e + 21 ≤ s.length ∧ (modeD (modeOf s)).length ≤ e ∧ (oneE s).2.1 = ⟨modeOf s, (s.take e).drop (modeD (modeOf s)).length, hexOf ((s.take (e + 21)).drop (e + 1))⟩ ∧ (oneE s).2.2 = s.drop (e + 21) ∧ oneN s = e + 21) := by
 obtain ⟨m, h1, h2, h3, h4, h5⟩ := modeE_ok h
 have key : ∀ n : Nat, (modeD (modeOf s)).length = n → n ≤ s.length → (oneE s).1 = (if findBad s = true then 3 else 0) ∧ (findBad s = false → ∃ e : Nat, findB s 0 n = (e : Int) ∧ e + 21 ≤ s.length ∧ n ≤ e ∧ (oneE s).2.1 = ⟨modeOf s, (s.take e).drop n, hexOf ((s.take (e + 21)).drop (e + 1))⟩ ∧ (oneE s).2.2 = s.drop (e + 21) ∧ oneN s = e + 21) := by
  intro n hn hle
  rw [oneN, oneE, if_neg (by omega), if_neg (by omega), findBad, hn, findB]
  simp only []
  have hge := Lib.indexByte_ge (s.drop n) 0
  have hl0 : (s.drop n).length = s.length - n := List.length_drop
  by_cases hk : Lib.indexByte (s.drop n) 0 < 0
  ·rw [if_pos hk, if_pos hk]
   exact ⟨rfl, fun h => by simp at h⟩
  ·rw [if_neg hk, if_neg hk]
   generalize hkk : (Lib.indexByte (s.drop n) 0).toNat = k
   have hk2 : Lib.indexByte (s.drop n) 0 = (k : Int) := by omega
   rw [hk2, hl0]
   by_cases hl : s.length - n < k + 21
   ·rw [if_pos hl]
    have : (decide ((n : Int) + (k : Int) < 0) || decide ((s.length : Int) - ((n : Int) + (k : Int)) < 21)) = true := by
     rw [Bool.or_eq_true]; exact .inr (decide_eq_true (by omega))
    rw [this]
    exact ⟨rfl, fun h => by simp at h⟩
   ·rw [if_neg hl]
    have : (decide ((n : Int) + (k : Int) < 0) || decide ((s.length : Int) - ((n : Int) + (k : Int)) < 21)) = false := by
     rw [Bool.or_eq_false_iff]; exact ⟨decide_eq_false (by omega), decide_eq_false (by omega)⟩
    rw [this]
    refine ⟨rfl, fun _ => ⟨n + k, by omega, by omega, by omega, ?_, ?_, ?_⟩⟩
    ·simp only [En.mk.injEq, true_and]
     refine ⟨?_, ?_⟩
     ·rw [List.drop_take, Nat.add_sub_cancel_left]
     ·rw [List.drop_take, List.drop_drop, show n + k + 21 - (n + k + 1) = 20 by omega, show n + (k + 1) = n + k + 1 by omega]
    ·show (s.drop n).drop (k + 21) = s.drop (n + k + 21)
     rw [List.drop_drop, show n + (k + 21) = n + k + 21 by omega]
    ·rw [if_pos rfl, List.length_drop, hl0]; omega
 exact key _ rfl (by rw [h3]; exact h5)
def cntN (l : List Str) : Nat → List Str × List Int
 | 0 => ([], [])
 | i + 1 => (mkeys (cntN l i).1 l[i]!, mset (cntN l i).1 (cntN l i).2 l[i]! (mval (cntN l i).1 (cntN l i).2 0 l[i]! + 1))
theorem cntN_len (l : List Str) : ∀ i, (cntN l i).1.length = (cntN l i).2.length
 | 0 => rfl
 | i + 1 => mkeys_length _ _ _ _ (cntN_len l i)
theorem cntN_val (l : List Str) (y : Str) : ∀ i, i ≤ l.length → mval (cntN l i).1 (cntN l i).2 0 y = (((l.take i).count y : Nat) : Int)
 | 0, _ => by simp [cntN, mval, kidx]
 | i + 1, h => by
  have ih := cntN_val l y i (by omega)
  rw [cntN]
  simp only []
  rw [mval_mset _ _ _ _ _ _ (cntN_len l i), take_snoc l i (by omega), List.count_append]
  by_cases e : l[i]! = y
  ·subst e
   rw [if_pos rfl, ih]
   simp
  ·rw [if_neg e, ih]
   have : [l[i]!].count y = 0 := by rw [List.count_eq_zero, List.mem_singleton]; exact fun h => e h.symm
   rw [this]; rfl
theorem cntN_dup (l : List Str) (i : Nat) (h : i < l.length) : decide (1 < mval (cntN l (i + 1)).1 (cntN l (i + 1)).2 0 l[i]!) = hasS (l.take i) l[i]! := by
 rw [cntN_val l _ (i + 1) (by omega), take_snoc l i h, List.count_append, hasS]
 refine decide_eq_decide.2 ?_
 have : [l[i]!].count l[i]! = 1 := by simp
 rw [this, ← List.count_pos_iff]
 omega
def entBad2 (l : List En) (i : Nat) : Bool := decide (0 < (i : Int)) && !Op.bytesLess l[i - 1]!.key l[i]!.key
theorem entE_may {l : List En} {i : Nat} (h : mayE l[i]! = false) : entE l i = 1 := by rw [entE, if_pos h]
theorem entE_sort {l : List En} {i : Nat} (h : mayE l[i]! = true) (h2 : entBad2 l i = true) : entE l i = 150 := by
 rw [entE, if_neg (by rw [h]; simp), if_pos]
 simp only [entBad2, Bool.and_eq_true, decide_eq_true_eq, Bool.not_eq_true'] at h2
 exact ⟨by omega, h2.2⟩
theorem entE_dup {l : List En} {i : Nat} (h : mayE l[i]! = true) (h2 : entBad2 l i = false) : entE l i = if hasS ((l.take i).map En.name) l[i]!.name = true then 6 else 0 := by
 rw [entE, if_neg (by rw [h]; simp), if_neg]
 intro h3
 have : entBad2 l i = true := by
  simp only [entBad2, Bool.and_eq_true, decide_eq_true_eq, Bool.not_eq_true']
  exact ⟨by omega, h3.2⟩
 rw [this] at h2; simp at h2
theorem checkE_stop {l : List En} {i : Nat} {e : Int} (hl : l.length ≤ 1024) (h : i < l.length) (hj : ∀ j, j < i → entE l j = 0) (he : entE l i = e) (h0 : e ≠ 0) : checkE l = e := by
 rw [checkE, if_neg (by omega), firstE_stop h hj (by rw [he]; exact h0), he]
theorem checkE_ok {l : List En} (hl : l.length ≤ 1024) (hj : ∀ j, j < l.length → entE l j = 0) : checkE l = 0 := by
 rw [checkE, if_neg (by omega), firstE_zero hj]
theorem map_bang {α β : Type} [Inhabited α] [Inhabited β] (f : α → β) (l : List α) (i : Nat) (h : i < l.length) : (l.map f)[i]! = f l[i]! := by
 rw [getElem!_pos _ i (by simpa using h), getElem!_pos l i h, List.getElem_map]
end Go.Graft
namespace Go.Graft
open Go.Sym
theorem vT {a b : Str} (h : a = b) : sV a = sV b := by rw [h]
theorem oneE_len (s : Str) : (oneE s).2.1.name.length ≤ s.length ∧ (oneE s).2.1.id.length ≤ 40 := by
 rw [oneE]
 split
 ·simp
 split
 ·simp
 simp only []
 split
 ·simp
 split
 ·simp
 ·refine ⟨?_, ?_⟩
  ·simp only [List.length_take, List.length_drop]; omega
  ·rw [hexOf_len]; simp only [List.length_take]; omega
def Reads (s : Str) (x : Str × List En) : Prop := entsA x.1 x.2 = entsA s [] ∧ x.2.length + x.1.length ≤ s.length ∧ ∀ e ∈ x.2, e.name.length ≤ 1000000000 ∧ e.id.length ≤ 1000000000
theorem reads_zero (s : Str) : Reads s (s, []) := ⟨rfl, by simp, by simp⟩
theorem reads_next {s t : Str} {acc : List En} (hs : s.length ≤ 1000000000) (h : Reads s (t, acc)) (ht : t ≠ []) (h1 : (oneE t).1 = 0) : Reads s ((oneE t).2.2, acc ++ [(oneE t).2.1]) := by
 obtain ⟨g1, g2, g3⟩ := h
 have h2 := oneE_short h1
 have h3 := oneE_len t
 refine ⟨(entsA_one ht h1).symm.trans g1, by simp only [List.length_append, List.length_singleton] at *; omega, fun e he => ?_⟩
 rcases List.mem_append.1 he with he | he
 ·exact g3 e he
 ·rw [List.mem_singleton.1 he]; simp only at g2; omega
theorem treeOf_err {s t : Str} {acc : List En} (h : Reads s (t, acc)) (ht : t ≠ []) (h1 : (oneE t).1 ≠ 0) : treeOf s = ((oneE t).1, []) := by
 have := h.1
 rw [entsA_err ht h1] at this
 rw [treeOf, ← this, if_pos h1]
theorem treeOf_end {s : Str} {acc : List En} (h : Reads s ([], acc)) : treeOf s = if checkE acc ≠ 0 then (checkE acc, []) else (0, acc) := by
 have := h.1
 rw [entsA_nil] at this
 rw [treeOf, ← this, if_neg (by simp)]
theorem drop_all (s : Str) (n : Nat) : (s.take s.length).drop n = s.drop n := by rw [List.take_length]
theorem oneN_rest {t : Str} (h1 : (oneE t).1 = 0) : t.drop (oneN t) = (oneE t).2.2 ∧ oneN t ≤ t.length := by
 have hm : modeE t = 0 := by
  cases h : decide (modeE t = 0) with
  | true => simpa using h
  | false => have h : modeE t ≠ 0 := by simpa using h
             have := oneE_mode h; omega
 have hf := oneE_find hm
 have hb : findBad t = false := by
  cases h : findBad t with
  | false => rfl
  | true => rw [h] at hf; have := hf.1; simp at this; omega
 obtain ⟨e, _, h2, _, _, h5, h6⟩ := hf.2 hb
 rw [h6, h5]; exact ⟨rfl, h2⟩
theorem cntN_step (l : List En) (i : Nat) (h : i < l.length) : cntN (l.map En.name) (i + 1) = (mkeys (cntN (l.map En.name) i).1 l[i]!.name, mset (cntN (l.map En.name) i).1 (cntN (l.map En.name) i).2 l[i]!.name (mval (cntN (l.map En.name) i).1 (cntN (l.map En.name) i).2 0 l[i]!.name + 1)) := by
 rw [cntN, map_bang _ _ _ h]
theorem cntN_bound (l : List Str) (y : Str) (i : Nat) (h : i ≤ l.length) : 0 ≤ mval (cntN l i).1 (cntN l i).2 0 y ∧ mval (cntN l i).1 (cntN l i).2 0 y ≤ l.length := by
 rw [cntN_val l y i h]
 have h1 : (l.take i).count y ≤ (l.take i).length := List.count_le_length
 rw [List.length_take] at h1
 omega
end Go.Graft
namespace Go.Graft
open Go.Sym
def idxP {α : Type} (q : α → Bool) (l : List α) : Int := match l.findIdx? q with | some i => (i : Int) | none => -1
theorem idxP_some {α : Type} [Inhabited α] {q : α → Bool} {l : List α} {i : Nat} (h : i < l.length) (hj : ∀ j, j < i → q l[j]! = false) (hi : q l[i]! = true) : idxP q l = (i : Int) := by
  have : l.findIdx? q = some i := by
    rw [List.findIdx?_eq_some_iff_getElem]
    refine ⟨h, by rw [getElem!_pos l i h] at hi; exact hi, fun j hji => ?_⟩
    have := hj j hji
    rw [getElem!_pos l j (by omega)] at this
    simp [this]
  rw [idxP, this]
theorem idxP_none {α : Type} [Inhabited α] {q : α → Bool} {l : List α} (hj : ∀ j, j < l.length → q l[j]! = false) : idxP q l = -1 := by
  have : l.findIdx? q = none := by
    rw [List.findIdx?_eq_none_iff]
    intro x hx
    obtain ⟨i, hi, rfl⟩ := List.getElem_of_mem hx
    have := hj i hi
    rwa [getElem!_pos l i hi] at this
  rw [idxP, this]
theorem idxP_any {α : Type} (q : α → Bool) (l : List α) : decide (0 ≤ idxP q l) = l.any q := by
  rw [idxP]
  cases h : l.findIdx? q with
  | none =>
    rw [List.findIdx?_eq_none_iff] at h
    have : l.any q = false := by rw [List.any_eq_false]; intro x hx; simp [h x hx]
    rw [this]; rfl
  | some i =>
    have : l.any q = true := by
      rw [List.findIdx?_eq_some_iff_getElem] at h
      obtain ⟨h1, h2, _⟩ := h
      rw [List.any_eq_true]
      exact ⟨_, List.getElem_mem h1, h2⟩
    rw [this]
    exact decide_eq_true (show (0 : Int) ≤ (i : Int) by omega)
theorem any_hasS (l : List Str) (x : Str) : (l.any fun y => decide (x = y)) = hasS l x := by
  rw [Bool.eq_iff_iff, List.any_eq_true, hasS, decide_eq_true_eq]
  constructor
  · rintro ⟨y, hy, h⟩
    have : x = y := of_decide_eq_true h
    rw [this]; exact hy
  · intro h; exact ⟨x, h, decide_eq_true rfl⟩
theorem contains_hasZ (s : Str) : Lib.contains s [0] = hasZ s := by
  induction s with
  | nil => rfl
  | cons b r ih =>
    have hge := Lib.index_ge r [0]
    have hz : hasZ (b :: r) = (zC b || hasZ r) := by simp [hasZ]
    rw [hz, ← ih, Lib.contains, Lib.contains, Go.Graft.index_one_cons]
    by_cases h : b = 0
    · subst h
      have : zC 0 = true := by decide
      rw [this]; simp
    · have : zC b = false := by
        rw [zC, decide_eq_false_iff_not]
        intro h2
        exact h (UInt8.toNat.inj (by
          have : b.toNat = 0 := by omega
          rw [this]; rfl))
      rw [this, if_neg h, Bool.false_or]
      refine decide_eq_decide.2 ?_
      split <;> omega
def seenN (l : List Str) : Nat → List Str × List Bool
  | 0 => ([], [])
  | i + 1 => (mkeys (seenN l i).1 l[i]!, mset (seenN l i).1 (seenN l i).2 l[i]! true)
theorem seenN_len (l : List Str) : ∀ i, (seenN l i).1.length = (seenN l i).2.length
  | 0 => rfl
  | i + 1 => mkeys_length _ _ _ _ (seenN_len l i)
theorem seenN_val (l : List Str) (y : Str) : ∀ i, i ≤ l.length → mval (seenN l i).1 (seenN l i).2 false y = hasS (l.take i) y
  | 0, _ => by simp [seenN, mval, kidx, hasS]
  | i + 1, h => by
    have ih := seenN_val l y i (by omega)
    rw [seenN]
    simp only []
    rw [mval_mset _ _ _ _ _ _ (seenN_len l i), take_snoc l i (by omega), ih]
    by_cases e : l[i]! = y
    · rw [if_pos e, e]; simp [hasS]
    · rw [if_neg e, hasS, hasS]
      refine decide_eq_decide.2 ?_
      rw [List.mem_append, List.mem_singleton]
      exact ⟨.inl, fun h => h.resolve_right fun h => e h.symm⟩
theorem tagged_no {s : Str} {i : Nat} (h : i < s.length) (hp : decide (((s.getD i 0).toNat : Int) ≤ 32) = true) : tagged s = false := by
  have : tagBad s = true := by
    rw [tagBad, List.any_eq_true]
    refine ⟨s[i], List.getElem_mem h, ?_⟩
    rw [List.getD_eq_getElem?_getD, List.getElem?_eq_getElem h] at hp
    exact hp
  rw [tagged, this]; rfl
theorem tagged_yes {s : Str} (h : ∀ i, i < s.length → decide (((s.getD i 0).toNat : Int) ≤ 32) = false) : tagged s = (decide ((1 : Int) ≤ s.length) && decide ((s.length : Int) ≤ 64)) := by
  have : tagBad s = false := by
    rw [tagBad, List.any_eq_false]
    intro x hx
    obtain ⟨i, hi, rfl⟩ := List.getElem_of_mem hx
    have := h i hi
    rw [List.getD_eq_getElem?_getD, List.getElem?_eq_getElem hi] at this
    simpa using this
  rw [tagged, this]; rfl
def Pars (s1 : Str) (e1 : Int) (x : Str × Int × List Str) : Prop :=
  (∃ f, x.1.length < f ∧ parsP f x.1 x.2.1 x.2.2 = parsOf s1 e1) ∧ x.2.2.length + (if x.2.1 = 0 then x.1.length else 0) ≤ s1.length + 1 ∧ x.1.length ≤ s1.length ∧ ∀ p ∈ x.2.2, p.length ≤ s1.length
theorem pars_zero (s1 : Str) (e1 : Int) : Pars s1 e1 (s1, e1, []) := ⟨⟨s1.length + 1, by simp, rfl⟩, by simp only [List.length_nil]; split <;> omega, Nat.le_refl _, by simp⟩
def parsM (x : Str × Int × List Str) : Nat := if x.2.1 = 0 then x.1.length + 1 else 0
theorem pars_next {s1 : Str} {e1 : Int} {t : Str} {l : List Str} (h : Pars s1 e1 (t, 0, l)) (hp : Lib.hasPrefix t kPar = true) : Pars s1 e1 (lineR t kPar, rdId t 0 kPar, l ++ [lineV t kPar]) ∧ parsM (lineR t kPar, rdId t 0 kPar, l ++ [lineV t kPar]) < parsM (t, 0, l) := by
  obtain ⟨⟨f, h1, h2⟩, h3, h4, h5⟩ := h
  have hl := prefix_len hp
  have hk : kPar.length = 7 := rfl
  have hR := lineR_le t kPar
  have hV := lineV_le t kPar
  simp only [if_true] at h3
  have hshort : rdId t 0 kPar = 0 → (lineR t kPar).length < t.length := fun h => by
    rw [rdId_zero] at h
    split at h
    · rename_i hh; simp only [Bool.and_eq_true] at hh; exact lineR_short t kPar hh.1
    · omega
  refine ⟨⟨?_, ?_, by simp only at h4 ⊢; omega, fun p hp2 => ?_⟩, ?_⟩
  · cases f with
    | zero => omega
    | succ f =>
      rw [parsP, if_pos ⟨rfl, hp⟩] at h2
      by_cases he : rdId t 0 kPar = 0
      · have := hshort he
        exact ⟨f, by simp only at h1 ⊢; omega, h2⟩
      · refine ⟨(lineR t kPar).length + 1, by simp, ?_⟩
        rw [← h2]
        have key : ∀ g, parsP g (lineR t kPar) (rdId t 0 kPar) (l ++ [lineV t kPar]) = (lineR t kPar, rdId t 0 kPar, l ++ [lineV t kPar]) := fun g => by
          cases g with
          | zero => rfl
          | succ g => rw [parsP, if_neg (fun h => he h.1)]
        rw [key, key]
  · simp only [List.length_append, List.length_singleton] at h3 h4 ⊢
    split
    · rename_i he; have := hshort he; omega
    · omega
  · rcases List.mem_append.1 hp2 with hp2 | hp2
    · exact h5 p hp2
    · rw [List.mem_singleton.1 hp2]; simp only at h4; omega
  · rw [parsM, parsM]
    simp only [if_true]
    split
    · rename_i he; have := hshort he; omega
    · omega
theorem pars_end {s1 : Str} {e1 : Int} {t : Str} {e : Int} {l : List Str} (h : Pars s1 e1 (t, e, l)) (hp : ¬ (e = 0 ∧ Lib.hasPrefix t kPar = true)) : parsOf s1 e1 = (t, e, l) := by
  obtain ⟨⟨f, h1, h2⟩, _⟩ := h
  cases f with
  | zero => omega
  | succ f => rw [← h2, parsP, if_neg hp]
theorem comP_def (s : Str) (s2 : Str) (e2 : Int) (l : List Str) (hq : parsOf (lineR s kTree) (rdId s 0 kTree) = (s2, e2, l)) : comP s =
    (let x := lineV s2 kAut
     let s3 := lineR s2 kAut
     let e3 := rdWho s2 e2 kAut
     let y := lineV s3 kCom
     let s4 := lineR s3 kCom
     let e4 := rdWho s3 e3 kCom
     let e5 := if lineV s4 [] = [] then lnE s4 [] e4 else failE (lnE s4 [] e4) 2
     let c : Com := ⟨lineV s kTree, l, (whoOf x).2, (whoOf y).2, lineR s4 []⟩
     let e6 := if e5 = 0 then comE c else e5
     if e6 = 0 then (0, c) else (e6, zeroCom)) := by
  rw [comP]
  simp only [hq]
end Go.Graft
namespace Go.Graft
open Go.Sym
def wholeE (k : Int) (b : Str) : Int := if objErr k b ≠ 0 then objErr k b else if k = 2 then (treeOf b).1 else if k = 3 then (comR b).1 else if k = 4 then (tgR b).1 else 0
def namesOf (k : Int) (b : Str) : List Str := if k = 2 then (treeOf b).2.map En.id else if k = 3 then (comR b).2.tree :: (comR b).2.pars else if k = 4 then [(tgR b).2.obj] else []
def dedN (l : List Str) : Nat → List Str
  | 0 => []
  | i + 1 => if hasS (dedN l i) l[i]! = true then dedN l i else dedN l i ++ [l[i]!]
theorem dedN_len (l : List Str) : ∀ i, (dedN l i).length ≤ i
  | 0 => Nat.le_refl _
  | i + 1 => by
    have := dedN_len l i
    rw [dedN]
    split
    · omega
    · simp; omega
def dedup (l : List Str) : List Str := dedN l l.length
def linksOf (k : Int) (b : Str) : List Str := if wholeE k b ≠ 0 then [] else dedup (namesOf k b)
theorem objErr_len {k : Int} {b : Str} (h : objErr k b = 0) : b.length ≤ 1048576 := by
  rw [objErr] at h
  split at h
  · omega
  · split at h
    · omega
    · omega
theorem treeOf_len (s : Str) : (treeOf s).2.length ≤ s.length := by
  rw [treeOf]
  split
  · simp
  split
  · simp
  · have key : ∀ (f : Nat) (s : Str) (acc : List En), (parseA f s acc).2.length ≤ acc.length + s.length := by
      intro f
      induction f with
      | zero => intro s acc; rw [parseA]; simp
      | succ f ih =>
        intro s acc
        rw [parseA]
        split
        · simp
        split
        · simp
        · rename_i h1 h2
          have h3 := oneE_short (s := s) (by simpa using h2)
          have h4 := ih (oneE s).2.2 (acc ++ [(oneE s).2.1])
          simp only [List.length_append, List.length_singleton] at h4
          omega
    have := key s.length s []
    simpa [entsA] using this
theorem parsR_len : ∀ (f : Nat) (s : Str) (l : List Str), s.length < f → ∀ s2 l2, parsR f s l = some (s2, l2) → l2.length ≤ l.length + s.length ∧ s2.length ≤ s.length
  | 0, s, l, h, s2, l2, _ => by omega
  | f + 1, s, l, h, s2, l2, he => by
    rw [parsR] at he
    split at he
    · rename_i hl
      have hs := lineR_short s kPar hl
      split at he
      · have := parsR_len f _ _ (by omega) s2 l2 he
        simp only [List.length_append, List.length_singleton] at this
        omega
      · simp at he
    · simp at he
      obtain ⟨rfl, rfl⟩ := he
      omega
theorem comR_len (s : Str) : (comR s).2.pars.length ≤ s.length := by
  rw [comR]
  split
  · simp [zeroCom]
  split
  · simp [zeroCom]
  · rename_i s2 l h
    have h1 := parsR_len _ _ _ (by omega) s2 l h
    have h2 := lineR_le s kTree
    simp only [List.length_nil] at h1
    simp only []
    split
    · simp [zeroCom]
    split
    · simp [zeroCom]
    split
    · simp only; omega
    · simp [zeroCom]
theorem namesOf_len (k : Int) (b : Str) : (namesOf k b).length ≤ b.length + 1 := by
  rw [namesOf]
  split
  · have := treeOf_len b; simp only [List.length_map]; omega
  split
  · have := comR_len b; simp only [List.length_cons]; omega
  split
  · simp
  · simp
theorem tgP_def (s : Str) : tgP s =
    (let s1 := lineR s kObj
     let e1 := rdId s 0 kObj
     let w := lineV s1 kTyp
     let s2 := lineR s1 kTyp
     let e2 := if kindW w = 0 then failE (lnE s1 kTyp e1) 2 else lnE s1 kTyp e1
     let s3 := lineR s2 kTag
     let e3 := lnE s2 kTag e2
     let x := lineV s3 kTgr
     let s4 := lineR s3 kTgr
     let e4 := rdWho s3 e3 kTgr
     let e5 := if lineV s4 [] = [] then lnE s4 [] e4 else failE (lnE s4 [] e4) 2
     let t : Tg := ⟨lineV s kObj, kindW w, lineV s2 kTag, (whoOf x).2, lineR s4 []⟩
     let e6 := if e5 = 0 then tgE t else e5
     if e6 = 0 then (0, t) else (e6, zeroTg)) := rfl
end Go.Graft
