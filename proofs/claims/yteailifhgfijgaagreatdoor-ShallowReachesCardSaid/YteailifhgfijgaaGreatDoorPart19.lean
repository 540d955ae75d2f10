/- A part of the proof: GTrf, GHof, GWhl, GOrd, GSto. -/
import Derived.Test.YteailifhgfijgaaGreatDoorPart18
set_option linter.unusedVariables false
set_option linter.unusedSimpArgs false
namespace Go.Graft
open Go.Sym
theorem vT {a b : Str} (h : a = b) : sV a = sV b := by rw [h]
theorem oneE_len (s : Str) : (oneE s).2.1.name.length ≤ s.length ∧ (oneE s).2.1.id.length ≤ 40 := by
 rw [oneE]
 split
 ·simp
 split
 ·simp
 simp only []
 split
 ·simp
 split
 ·simp
 ·refine ⟨?_, ?_⟩
  ·simp only [List.length_take, List.length_drop]; omega
  ·rw [hexOf_len]; simp only [List.length_take]; omega
def Reads (s : Str) (x : Str × List En) : Prop := entsA x.1 x.2 = entsA s [] ∧ x.2.length + x.1.length ≤ s.length ∧ ∀ e ∈ x.2, e.name.length ≤ 1000000000 ∧ e.id.length ≤ 1000000000
theorem reads_zero (s : Str) : Reads s (s, []) := ⟨rfl, by simp, by simp⟩
theorem reads_next {s t : Str} {acc : List En} (hs : s.length ≤ 1000000000) (h : Reads s (t, acc)) (ht : t ≠ []) (h1 : (oneE t).1 = 0) : Reads s ((oneE t).2.2, acc ++ [(oneE t).2.1]) := by
 obtain ⟨g1, g2, g3⟩ := h
 have h2 := oneE_short h1
 have h3 := oneE_len t
 refine ⟨(entsA_one ht h1).symm.trans g1, by simp only [List.length_append, List.length_singleton] at *; omega, fun e he => ?_⟩
 rcases List.mem_append.1 he with he | he
 ·exact g3 e he
 ·rw [List.mem_singleton.1 he]; simp only at g2; omega
theorem treeOf_err {s t : Str} {acc : List En} (h : Reads s (t, acc)) (ht : t ≠ []) (h1 : (oneE t).1 ≠ 0) : treeOf s = ((oneE t).1, []) := by
 have := h.1
 rw [entsA_err ht h1] at this
 rw [treeOf, ← this, if_pos h1]
theorem treeOf_end {s : Str} {acc : List En} (h : Reads s ([], acc)) : treeOf s = if checkE acc ≠ 0 then (checkE acc, []) else (0, acc) := by
 have := h.1
 rw [entsA_nil] at this
 rw [treeOf, ← this, if_neg (by simp)]
theorem drop_all (s : Str) (n : Nat) : (s.take s.length).drop n = s.drop n := by rw [List.take_length]
theorem oneN_rest {t : Str} (h1 : (oneE t).1 = 0) : t.drop (oneN t) = (oneE t).2.2 ∧ oneN t ≤ t.length := by
 have hm : modeE t = 0 := by
  cases h : decide (modeE t = 0) with
  | true => simpa using h
  | false => have h : modeE t ≠ 0 := by simpa using h
             have := oneE_mode h; omega
 have hf := oneE_find hm
 have hb : findBad t = false := by
  cases h : findBad t with
  | false => rfl
  | true => rw [h] at hf; have := hf.1; simp at this; omega
 obtain ⟨e, _, h2, _, _, h5, h6⟩ := hf.2 hb
 rw [h6, h5]; exact ⟨rfl, h2⟩
theorem cntN_step (l : List En) (i : Nat) (h : i < l.length) : cntN (l.map En.name) (i + 1) = (mkeys (cntN (l.map En.name) i).1 l[i]!.name, mset (cntN (l.map En.name) i).1 (cntN (l.map En.name) i).2 l[i]!.name (mval (cntN (l.map En.name) i).1 (cntN (l.map En.name) i).2 0 l[i]!.name + 1)) := by
 rw [cntN, map_bang _ _ _ h]
theorem cntN_bound (l : List Str) (y : Str) (i : Nat) (h : i ≤ l.length) : 0 ≤ mval (cntN l i).1 (cntN l i).2 0 y ∧ mval (cntN l i).1 (cntN l i).2 0 y ≤ l.length := by
 rw [cntN_val l y i h]
 have h1 : (l.take i).count y ≤ (l.take i).length := List.count_le_length
 rw [List.length_take] at h1
 omega
end Go.Graft
namespace Go.Graft
open Go.Sym
def idxP {α : Type} (q : α → Bool) (l : List α) : Int := match l.findIdx? q with | some i => (i : Int) | none => -1
theorem idxP_some {α : Type} [Inhabited α] {q : α → Bool} {l : List α} {i : Nat} (h : i < l.length) (hj : ∀ j, j < i → q l[j]! = false) (hi : q l[i]! = true) : idxP q l = (i : Int) := by
  have : l.findIdx? q = some i := by
    rw [List.findIdx?_eq_some_iff_getElem]
    refine ⟨h, by rw [getElem!_pos l i h] at hi; exact hi, fun j hji => ?_⟩
    have := hj j hji
    rw [getElem!_pos l j (by omega)] at this
    simp [this]
  rw [idxP, this]
theorem idxP_none {α : Type} [Inhabited α] {q : α → Bool} {l : List α} (hj : ∀ j, j < l.length → q l[j]! = false) : idxP q l = -1 := by
  have : l.findIdx? q = none := by
    rw [List.findIdx?_eq_none_iff]
    intro x hx
    obtain ⟨i, hi, rfl⟩ := List.getElem_of_mem hx
    have := hj i hi
    rwa [getElem!_pos l i hi] at this
  rw [idxP, this]
theorem idxP_any {α : Type} (q : α → Bool) (l : List α) : decide (0 ≤ idxP q l) = l.any q := by
  rw [idxP]
  cases h : l.findIdx? q with
  | none =>
    rw [List.findIdx?_eq_none_iff] at h
    have : l.any q = false := by rw [List.any_eq_false]; intro x hx; simp [h x hx]
    rw [this]; rfl
  | some i =>
    have : l.any q = true := by
      rw [List.findIdx?_eq_some_iff_getElem] at h
      obtain ⟨h1, h2, _⟩ := h
      rw [List.any_eq_true]
      exact ⟨_, List.getElem_mem h1, h2⟩
    rw [this]
    exact decide_eq_true (show (0 : Int) ≤ (i : Int) by omega)
theorem any_hasS (l : List Str) (x : Str) : (l.any fun y => decide (x = y)) = hasS l x := by
  rw [Bool.eq_iff_iff, List.any_eq_true, hasS, decide_eq_true_eq]
  constructor
  · rintro ⟨y, hy, h⟩
    have : x = y := of_decide_eq_true h
    rw [this]; exact hy
  · intro h; exact ⟨x, h, decide_eq_true rfl⟩
theorem contains_hasZ (s : Str) : Lib.contains s [0] = hasZ s := by
  induction s with
  | nil => rfl
  | cons b r ih =>
    have hge := Lib.index_ge r [0]
    have hz : hasZ (b :: r) = (zC b || hasZ r) := by simp [hasZ]
    rw [hz, ← ih, Lib.contains, Lib.contains, Go.Graft.index_one_cons]
    by_cases h : b = 0
    · subst h
      have : zC 0 = true := by decide
      rw [this]; simp
    · have : zC b = false := by
        rw [zC, decide_eq_false_iff_not]
        intro h2
        exact h (UInt8.toNat.inj (by
          have : b.toNat = 0 := by omega
          rw [this]; rfl))
      rw [this, if_neg h, Bool.false_or]
      refine decide_eq_decide.2 ?_
      split <;> omega
def seenN (l : List Str) : Nat → List Str × List Bool
  | 0 => ([], [])
  | i + 1 => (mkeys (seenN l i).1 l[i]!, mset (seenN l i).1 (seenN l i).2 l[i]! true)
theorem seenN_len (l : List Str) : ∀ i, (seenN l i).1.length = (seenN l i).2.length
  | 0 => rfl
  | i + 1 => mkeys_length _ _ _ _ (seenN_len l i)
theorem seenN_val (l : List Str) (y : Str) : ∀ i, i ≤ l.length → mval (seenN l i).1 (seenN l i).2 false y = hasS (l.take i) y
  | 0, _ => by simp [seenN, mval, kidx, hasS]
  | i + 1, h => by
    have ih := seenN_val l y i (by omega)
    rw [seenN]
    simp only []
    rw [mval_mset _ _ _ _ _ _ (seenN_len l i), take_snoc l i (by omega), ih]
    by_cases e : l[i]! = y
    · rw [if_pos e, e]; simp [hasS]
    · rw [if_neg e, hasS, hasS]
      refine decide_eq_decide.2 ?_
      rw [List.mem_append, List.mem_singleton]
      exact ⟨.inl, fun h => h.resolve_right fun h => e h.symm⟩
theorem tagged_no {s : Str} {i : Nat} (h : i < s.length) (hp : decide (((s.getD i 0).toNat : Int) ≤ 32) = true) : tagged s = false := by
  have : tagBad s = true := by
    rw [tagBad, List.any_eq_true]
    refine ⟨s[i], List.getElem_mem h, ?_⟩
    rw [List.getD_eq_getElem?_getD, List.getElem?_eq_getElem h] at hp
    exact hp
  rw [tagged, this]; rfl
theorem tagged_yes {s : Str} (h : ∀ i, i < s.length → decide (((s.getD i 0).toNat : Int) ≤ 32) = false) : tagged s = (decide ((1 : Int) ≤ s.length) && decide ((s.length : Int) ≤ 64)) := by
  have : tagBad s = false := by
    rw [tagBad, List.any_eq_false]
    intro x hx
    obtain ⟨i, hi, rfl⟩ := List.getElem_of_mem hx
    have := h i hi
    rw [List.getD_eq_getElem?_getD, List.getElem?_eq_getElem hi] at this
    simpa using this
  rw [tagged, this]; rfl
def Pars (s1 : Str) (e1 : Int) (x : Str × Int × List Str) : Prop :=
  (∃ f, x.1.length < f ∧ parsP f x.1 x.2.1 x.2.2 = parsOf s1 e1) ∧ x.2.2.length + (if x.2.1 = 0 then x.1.length else 0) ≤ s1.length + 1 ∧ x.1.length ≤ s1.length ∧ ∀ p ∈ x.2.2, p.length ≤ s1.length
theorem pars_zero (s1 : Str) (e1 : Int) : Pars s1 e1 (s1, e1, []) := ⟨⟨s1.length + 1, by simp, rfl⟩, by simp only [List.length_nil]; split <;> omega, Nat.le_refl _, by simp⟩
def parsM (x : Str × Int × List Str) : Nat := if x.2.1 = 0 then x.1.length + 1 else 0
theorem pars_next {s1 : Str} {e1 : Int} {t : Str} {l : List Str} (h : Pars s1 e1 (t, 0, l)) (hp : Lib.hasPrefix t kPar = true) : Pars s1 e1 (lineR t kPar, rdId t 0 kPar, l ++ [lineV t kPar]) ∧ parsM (lineR t kPar, rdId t 0 kPar, l ++ [lineV t kPar]) < parsM (t, 0, l) := by
  obtain ⟨⟨f, h1, h2⟩, h3, h4, h5⟩ := h
  have hl := prefix_len hp
  have hk : kPar.length = 7 := rfl
  have hR := lineR_le t kPar
  have hV := lineV_le t kPar
  simp only [if_true] at h3
  have hshort : rdId t 0 kPar = 0 → (lineR t kPar).length < t.length := fun h => by
    rw [rdId_zero] at h
    split at h
    · rename_i hh; simp only [Bool.and_eq_true] at hh; exact lineR_short t kPar hh.1
    · omega
  refine ⟨⟨?_, ?_, by simp only at h4 ⊢; omega, fun p hp2 => ?_⟩, ?_⟩
  · cases f with
    | zero => omega
    | succ f =>
      rw [parsP, if_pos ⟨rfl, hp⟩] at h2
      by_cases he : rdId t 0 kPar = 0
      · have := hshort he
        exact ⟨f, by simp only at h1 ⊢; omega, h2⟩
      · refine ⟨(lineR t kPar).length + 1, by simp, ?_⟩
        rw [← h2]
        have key : ∀ g, parsP g (lineR t kPar) (rdId t 0 kPar) (l ++ [lineV t kPar]) = (lineR t kPar, rdId t 0 kPar, l ++ [lineV t kPar]) := fun g => by
          cases g with
          | zero => rfl
          | succ g => rw [parsP, if_neg (fun h => he h.1)]
        rw [key, key]
  · simp only [List.length_append, List.length_singleton] at h3 h4 ⊢
    split
    · rename_i he; have := hshort he; omega
    · omega
  · rcases List.mem_append.1 hp2 with hp2 | hp2
    · exact h5 p hp2
    · rw [List.mem_singleton.1 hp2]; simp only at h4; omega
  · rw [parsM, parsM]
    simp only [if_true]
    split
    · rename_i he; have := hshort he; omega
    · omega
theorem pars_end {s1 : Str} {e1 : Int} {t : Str} {e : Int} {l : List Str} (h : Pars s1 e1 (t, e, l)) (hp : ¬ (e = 0 ∧ Lib.hasPrefix t kPar = true)) : parsOf s1 e1 = (t, e, l) := by
  obtain ⟨⟨f, h1, h2⟩, _⟩ := h
  cases f with
  | zero => omega
  | succ f => rw [← h2, parsP, if_neg hp]
theorem comP_def (s : Str) (s2 : Str) (e2 : Int) (l : List Str) (hq : parsOf (lineR s kTree) (rdId s 0 kTree) = (s2, e2, l)) : comP s =
    (let x := lineV s2 kAut
     let s3 := lineR s2 kAut
     let e3 := rdWho s2 e2 kAut
     let y := lineV s3 kCom
     let s4 := lineR s3 kCom
     let e4 := rdWho s3 e3 kCom
     let e5 := if lineV s4 [] = [] then lnE s4 [] e4 else failE (lnE s4 [] e4) 2
     let c : Com := ⟨lineV s kTree, l, (whoOf x).2, (whoOf y).2, lineR s4 []⟩
     let e6 := if e5 = 0 then comE c else e5
     if e6 = 0 then (0, c) else (e6, zeroCom)) := by
  rw [comP]
  simp only [hq]
end Go.Graft
namespace Go.Graft
open Go.Sym
def wholeE (k : Int) (b : Str) : Int := if objErr k b ≠ 0 then objErr k b else if k = 2 then (treeOf b).1 else if k = 3 then (comR b).1 else if k = 4 then (tgR b).1 else 0
def namesOf (k : Int) (b : Str) : List Str := if k = 2 then (treeOf b).2.map En.id else if k = 3 then (comR b).2.tree :: (comR b).2.pars else if k = 4 then [(tgR b).2.obj] else []
def dedN (l : List Str) : Nat → List Str
  | 0 => []
  | i + 1 => if hasS (dedN l i) l[i]! = true then dedN l i else dedN l i ++ [l[i]!]
theorem dedN_len (l : List Str) : ∀ i, (dedN l i).length ≤ i
  | 0 => Nat.le_refl _
  | i + 1 => by
    have := dedN_len l i
    rw [dedN]
    split
    · omega
    · simp; omega
def dedup (l : List Str) : List Str := dedN l l.length
def linksOf (k : Int) (b : Str) : List Str := if wholeE k b ≠ 0 then [] else dedup (namesOf k b)
theorem objErr_len {k : Int} {b : Str} (h : objErr k b = 0) : b.length ≤ 1048576 := by
  rw [objErr] at h
  split at h
  · omega
  · split at h
    · omega
    · omega
theorem treeOf_len (s : Str) : (treeOf s).2.length ≤ s.length := by
  rw [treeOf]
  split
  · simp
  split
  · simp
  · have key : ∀ (f : Nat) (s : Str) (acc : List En), (parseA f s acc).2.length ≤ acc.length + s.length := by
      intro f
      induction f with
      | zero => intro s acc; rw [parseA]; simp
      | succ f ih =>
        intro s acc
        rw [parseA]
        split
        · simp
        split
        · simp
        · rename_i h1 h2
          have h3 := oneE_short (s := s) (by simpa using h2)
          have h4 := ih (oneE s).2.2 (acc ++ [(oneE s).2.1])
          simp only [List.length_append, List.length_singleton] at h4
          omega
    have := key s.length s []
    simpa [entsA] using this
theorem parsR_len : ∀ (f : Nat) (s : Str) (l : List Str), s.length < f → ∀ s2 l2, parsR f s l = some (s2, l2) → l2.length ≤ l.length + s.length ∧ s2.length ≤ s.length
  | 0, s, l, h, s2, l2, _ => by omega
  | f + 1, s, l, h, s2, l2, he => by
    rw [parsR] at he
    split at he
    · rename_i hl
      have hs := lineR_short s kPar hl
      split at he
      · have := parsR_len f _ _ (by omega) s2 l2 he
        simp only [List.length_append, List.length_singleton] at this
        omega
      · simp at he
    · simp at he
      obtain ⟨rfl, rfl⟩ := he
      omega
theorem comR_len (s : Str) : (comR s).2.pars.length ≤ s.length := by
  rw [comR]
  split
  · simp [zeroCom]
  split
  · simp [zeroCom]
  · rename_i s2 l h
    have h1 := parsR_len _ _ _ (by omega) s2 l h
    have h2 := lineR_le s kTree
    simp only [List.length_nil] at h1
    simp only []
    split
    · simp [zeroCom]
    split
    · simp [zeroCom]
    split
    · simp only; omega
    · simp [zeroCom]
theorem namesOf_len (k : Int) (b : Str) : (namesOf k b).length ≤ b.length + 1 := by
  rw [namesOf]
  split
  · have := treeOf_len b; simp only [List.length_map]; omega
  split
  · have := comR_len b; simp only [List.length_cons]; omega
  split
  · simp
  · simp
theorem tgP_def (s : Str) : tgP s =
    (let s1 := lineR s kObj
     let e1 := rdId s 0 kObj
     let w := lineV s1 kTyp
     let s2 := lineR s1 kTyp
     let e2 := if kindW w = 0 then failE (lnE s1 kTyp e1) 2 else lnE s1 kTyp e1
     let s3 := lineR s2 kTag
     let e3 := lnE s2 kTag e2
     let x := lineV s3 kTgr
     let s4 := lineR s3 kTgr
     let e4 := rdWho s3 e3 kTgr
     let e5 := if lineV s4 [] = [] then lnE s4 [] e4 else failE (lnE s4 [] e4) 2
     let t : Tg := ⟨lineV s kObj, kindW w, lineV s2 kTag, (whoOf x).2, lineR s4 []⟩
     let e6 := if e5 = 0 then tgE t else e5
     if e6 = 0 then (0, t) else (e6, zeroTg)) := rfl
end Go.Graft
namespace Go.Graft
abbrev bl (a b : Str) : Bool := Op.bytesLess a b
theorem u8_tri (a b : UInt8) : a < b ∨ b < a ∨ a = b := by
 rcases Nat.lt_trichotomy a.toNat b.toNat with h | h | h
 ·exact .inl (UInt8.lt_iff_toNat_lt.2 h)
 ·exact .inr (.inr (UInt8.toNat.inj h))
 ·exact .inr (.inl (UInt8.lt_iff_toNat_lt.2 h))
theorem u8_irr (a : UInt8) : ¬ a < a := fun h => by have := UInt8.lt_iff_toNat_lt.1 h; omega
theorem u8_asym {a b : UInt8} (h : a < b) : ¬ b < a := fun h' => by
 have h3 := UInt8.lt_iff_toNat_lt.1 h; have h4 := UInt8.lt_iff_toNat_lt.1 h'; omega
theorem u8_trans {a b c : UInt8} (h : a < b) (h' : b < c) : a < c := by
 have h3 := UInt8.lt_iff_toNat_lt.1 h; have h4 := UInt8.lt_iff_toNat_lt.1 h'; exact UInt8.lt_iff_toNat_lt.2 (by omega)
theorem bl_cons (a b : UInt8) (x y : Str) : bl (a :: x) (b :: y) = true ↔ a < b ∨ (a = b ∧ bl x y = true) := by
 simp only [bl, Op.bytesLess]
 rcases u8_tri a b with h | h | h
 ·have hne : ¬ a = b := fun e => u8_irr b (e ▸ h)
  simp [h]
 ·have hne : ¬ a = b := fun e => u8_irr b (e ▸ h)
  have hnl := u8_asym h
  simp [hne, hnl]
 ·subst h
  simp
theorem bl_irr : ∀ a : Str, bl a a = false
 | [] => rfl
 | b :: r => by
  have ih := bl_irr r
  cases h : bl (b :: r) (b :: r) with
  | false => rfl
  | true =>
   rw [bl_cons] at h
   rcases h with h | h
   ·exact absurd h (u8_irr b)
   ·rw [ih] at h; simp at h
theorem bl_trans : ∀ {a b c : Str}, bl a b = true → bl b c = true → bl a c = true
 | [], b, [], _, h => by cases b <;> simp [bl, Op.bytesLess] at h
 | [], _, _ :: _, _, _ => rfl
 | a :: x, [], c, h, _ => by simp [bl, Op.bytesLess] at h
 | a :: x, b :: y, [], _, h => by simp [bl, Op.bytesLess] at h
 | a :: x, b :: y, c :: z, h, h' => by
  rw [bl_cons] at *
  rcases h with h | ⟨rfl, h⟩ <;> rcases h' with h' | ⟨rfl, h'⟩
  ·exact .inl (u8_trans h h')
  ·exact .inl h
  ·exact .inl h'
  ·exact .inr ⟨rfl, bl_trans h h'⟩
theorem bl_tri : ∀ a b : Str, bl a b = true ∨ bl b a = true ∨ a = b
 | [], [] => .inr (.inr rfl)
 | [], _ :: _ => .inl rfl
 | _ :: _, [] => .inr (.inl rfl)
 | a :: x, b :: y => by
  rw [bl_cons, bl_cons]
  rcases u8_tri a b with h | h | rfl
  ·exact .inl (.inl h)
  ·exact .inr (.inl (.inl h))
  ·rcases bl_tri x y with h | h | rfl
   ·exact .inl (.inr ⟨rfl, h⟩)
   ·exact .inr (.inl (.inr ⟨rfl, h⟩))
   ·exact .inr (.inr rfl)
theorem bl_asym {a b : Str} (h : bl a b = true) : bl b a = false := by
 cases h' : bl b a with
 | false => rfl
 | true => have := bl_trans h h'; rw [bl_irr] at this; simp at this
theorem bl_ne {a b : Str} (h : bl a b = true) : a ≠ b := fun e => by rw [e, bl_irr] at h; simp at h
theorem hvAt_spec (less : Nat → Bool) (hm : ∀ i j, i ≤ j → less j = true → less i = true) : ∀ (d lo hi : Nat), hi - lo = d → lo ≤ hi → (∀ i, i < lo → less i = true) → (∀ i, hi ≤ i → less i = false) →
  (∀ i, i < hvAt less lo hi → less i = true) ∧ ∀ i, hvAt less lo hi ≤ i → less i = false := by
 intro d
 induction d using Nat.strongRecOn with
 | _ d ih =>
  intro lo hi hd hle h1 h2
  by_cases h : lo < hi
  ·rw [hvAt_lt less lo hi h]
   split
   ·rename_i hl
    exact ih (hi - ((lo + hi) / 2 + 1)) (by omega) ((lo + hi) / 2 + 1) hi rfl (by omega) (fun i hi => hm i _ (by omega) hl) h2
   ·rename_i hl
    have hl : less ((lo + hi) / 2) = false := by simpa using hl
    refine ih ((lo + hi) / 2 - lo) (by omega) lo ((lo + hi) / 2) rfl (by omega) h1 fun i hi2 => ?_
    cases h3 : less i with
    | false => rfl
    | true => have := hm _ i hi2 h3; rw [hl] at this; simp at this
  ·rw [hvAt_ge less lo hi h]
   exact ⟨h1, fun i hi2 => h2 i (by omega)⟩
def asc (l : List Str) : Prop := l.Pairwise fun a b => bl a b = true
theorem asc_at {l : List Str} (h : asc l) {i j : Nat} (hij : i < j) (hj : j < l.length) : bl l[i]! l[j]! = true := by
 rw [getElem!_pos l i (by omega), getElem!_pos l j hj]
 exact List.pairwise_iff_getElem.1 h i j (by omega) hj hij
theorem asc_nodup {l : List Str} (h : asc l) : l.Nodup := h.imp bl_ne
theorem spot_spec {l : List Str} (h : asc l) (x : Str) : spot l x ≤ l.length ∧ (∀ i, i < spot l x → bl l[i]! x = true) ∧ ∀ i, spot l x ≤ i → i < l.length → bl l[i]! x = false := by
 have key := hvAt_spec (fun i => decide (i < l.length) && bl l[i]! x) (fun i j hij hj => by
  simp only [Bool.and_eq_true, decide_eq_true_eq] at hj ⊢
  refine ⟨by omega, ?_⟩
  by_cases e : i = j
  ·subst e; exact hj.2
  ·exact bl_trans (asc_at h (by omega) hj.1) hj.2) l.length 0 l.length (by omega) (by omega) (fun i hi => by omega) (fun i hi => by simp; omega)
 have e : hvAt (fun i => decide (i < l.length) && bl l[i]! x) 0 l.length = spot l x := by
  rw [spot, halve_eq]
  have gen : ∀ (d lo hi : Nat), hi - lo = d → hi ≤ l.length → hvAt (fun i => decide (i < l.length) && bl l[i]! x) lo hi = hvAt (fun i => Op.bytesLess l[i]! x) lo hi := by
   intro d
   induction d using Nat.strongRecOn with
   | _ d ih =>
    intro lo hi hd hle
    by_cases hlt : lo < hi
    ·rw [hvAt_lt _ lo hi hlt, hvAt_lt _ lo hi hlt, decide_eq_true (by omega : (lo + hi) / 2 < l.length), Bool.true_and]
     split
     ·exact ih _ (by omega) _ _ rfl hle
     ·exact ih _ (by omega) _ _ rfl (by omega)
    ·rw [hvAt_ge _ lo hi hlt, hvAt_ge _ lo hi hlt]
  exact gen _ 0 l.length rfl (Nat.le_refl _)
 rw [e] at key
 have hle := (hvAt_le (fun i => Op.bytesLess l[i]! x) _ 0 l.length rfl (by omega)).2
 rw [← halve_eq] at hle
 refine ⟨hle, fun i hi => ?_, fun i h1 h2 => ?_⟩
 ·have := key.1 i hi; simp only [Bool.and_eq_true] at this; exact this.2
 ·have := key.2 i h1
  simp only [Bool.and_eq_false_iff, decide_eq_false_iff_not] at this
  exact this.resolve_left (by omega)
def holdsP (l : List Str) (x : Str) : Bool := decide (spot l x < l.length) && decide (l[spot l x]! = x)
theorem holds_iff {l : List Str} (h : asc l) (x : Str) : holdsP l x = true ↔ x ∈ l := by
 obtain ⟨h1, h2, h3⟩ := spot_spec h x
 simp only [holdsP, Bool.and_eq_true, decide_eq_true_eq]
 constructor
 ·rintro ⟨h4, h5⟩
  rw [← h5, getElem!_pos l _ h4]
  exact List.getElem_mem h4
 ·intro hx
  obtain ⟨i, hi, rfl⟩ := List.getElem_of_mem hx
  have e : spot l l[i] = i := by
   rcases Nat.lt_trichotomy (spot l l[i]) i with h4 | h4 | h4
   ·have := h3 _ (Nat.le_refl _) (by omega)
    have h5 := asc_at h h4 hi
    rw [getElem!_pos l i hi] at h5
    rw [h5] at this; simp at this
   ·exact h4
   ·have := h2 i h4
    rw [getElem!_pos l i hi, bl_irr] at this; simp at this
  rw [e, getElem!_pos l i hi]
  exact ⟨hi, rfl⟩
def insS (l : List Str) (x : Str) : List Str := if holdsP l x = true then l else l.take (spot l x) ++ [x] ++ l.drop (spot l x)
theorem insS_mem {l : List Str} (x y : Str) (h : asc l) : y ∈ insS l x ↔ y = x ∨ y ∈ l := by
 rw [insS]
 split
 ·rename_i hx
  have := (holds_iff h x).1 hx
  constructor
  ·exact .inr
  ·rintro (rfl | h); exact this; exact h
 ·rw [List.mem_append, List.mem_append, List.mem_singleton]
  have e : y ∈ l ↔ y ∈ l.take (spot l x) ∨ y ∈ l.drop (spot l x) := by rw [← List.mem_append, List.take_append_drop]
  rw [e]
  constructor
  ·rintro ((h | h) | h)
   ·exact .inr (.inl h)
   ·exact .inl h
   ·exact .inr (.inr h)
  ·rintro (h | h | h)
   ·exact .inl (.inr h)
   ·exact .inl (.inl h)
   ·exact .inr h
theorem insS_asc {l : List Str} (x : Str) (h : asc l) : asc (insS l x) := by
 rw [insS]
 split
 ·exact h
 ·rename_i hx
  obtain ⟨h1, h2, h3⟩ := spot_spec h x
  have h4 : ∀ i, spot l x ≤ i → i < l.length → bl x l[i]! = true := by
   intro i hi hil
   have h5 := h3 i hi hil
   rcases bl_tri x l[i]! with h6 | h6 | h6
   ·exact h6
   ·rw [h5] at h6; simp at h6
   ·exfalso
    apply hx
    rw [holds_iff h]
    rw [h6, getElem!_pos l i hil]
    exact List.getElem_mem hil
  have ht : ∀ a ∈ l.take (spot l x), bl a x = true := by
   intro a ha
   obtain ⟨i, hi, rfl⟩ := List.getElem_of_mem ha
   rw [List.length_take] at hi
   have := h2 i (by omega)
   rw [getElem!_pos l i (by omega)] at this
   rw [List.getElem_take]; exact this
  have hd : ∀ b ∈ l.drop (spot l x), bl x b = true := by
   intro b hb
   obtain ⟨i, hi, rfl⟩ := List.getElem_of_mem hb
   rw [List.length_drop] at hi
   have := h4 (spot l x + i) (by omega) (by omega)
   rw [getElem!_pos l _ (by omega)] at this
   rw [List.getElem_drop]; exact this
  rw [asc, List.append_assoc, List.pairwise_append]
  refine ⟨h.sublist (List.take_sublist _ _), ?_, ?_⟩
  ·rw [List.singleton_append, List.pairwise_cons]
   exact ⟨hd, h.sublist (List.drop_sublist _ _)⟩
  ·intro a ha b hb
   rw [List.singleton_append, List.mem_cons] at hb
   rcases hb with rfl | hb
   ·exact ht a ha
   ·exact bl_trans (ht a ha) (hd b hb)
theorem asc_unique : ∀ {a b : List Str}, asc a → asc b → (∀ x, x ∈ a ↔ x ∈ b) → a = b
 | [], [], _, _, _ => rfl
 | [], y :: b, _, _, h => by have := (h y).2 (by simp); simp at this
 | x :: a, [], _, _, h => by have := (h x).1 (by simp); simp at this
 | x :: a, y :: b, ha, hb, h => by
  have ha' := List.pairwise_cons.1 ha
  have hb' := List.pairwise_cons.1 hb
  have e : x = y := by
   rcases List.mem_cons.1 ((h x).1 (by simp)) with e | hx
   ·exact e
   ·rcases List.mem_cons.1 ((h y).2 (by simp)) with e | hy
    ·exact e.symm
    ·have h1 := hb'.1 x hx
     have h2 := ha'.1 y hy
     rw [bl_asym h1] at h2; simp at h2
  subst e
  congr 1
  refine asc_unique ha'.2 hb'.2 fun z => ?_
  have hz := h z
  rw [List.mem_cons, List.mem_cons] at hz
  constructor
  ·intro hza
   rcases hz.1 (.inr hza) with rfl | h5
   ·have := ha'.1 z hza; rw [bl_irr] at this; simp at this
   ·exact h5
  ·intro hzb
   rcases hz.2 (.inr hzb) with rfl | h5
   ·have := hb'.1 z hzb; rw [bl_irr] at this; simp at this
   ·exact h5
def sortN (l : List Str) : Nat → List Str
 | 0 => []
 | i + 1 => insS (sortN l i) l[i]!
theorem sortN_asc (l : List Str) : ∀ i, asc (sortN l i)
 | 0 => .nil
 | i + 1 => insS_asc _ (sortN_asc l i)
theorem sortN_mem (l : List Str) (x : Str) : ∀ i, i ≤ l.length → (x ∈ sortN l i ↔ x ∈ l.take i)
 | 0, _ => by simp [sortN]
 | i + 1, h => by
  rw [sortN, insS_mem _ _ (sortN_asc l i), sortN_mem l x i (by omega), take_snoc l i (by omega), List.mem_append, List.mem_singleton, or_comm]
def sortS (l : List Str) : List Str := sortN l l.length
theorem sortS_asc (l : List Str) : asc (sortS l) := sortN_asc l _
theorem sortS_mem (l : List Str) (x : Str) : x ∈ sortS l ↔ x ∈ l := by rw [sortS, sortN_mem l x _ (Nat.le_refl _), List.take_length]
theorem insS_len (l : List Str) (x : Str) : (insS l x).length ≤ l.length + 1 := by
 rw [insS]
 split
 ·omega
 ·simp only [List.length_append, List.length_take, List.length_drop, List.length_singleton]; omega
theorem sortN_len (l : List Str) : ∀ i, (sortN l i).length ≤ i
 | 0 => Nat.le_refl _
 | i + 1 => by have := sortN_len l i; have := insS_len (sortN l i) l[i]!; rw [sortN]; omega
end Go.Graft
namespace Go.Graft
open Go.Sym
def nmsOf (k : Int) (b : Str) (cut : Bool) : List Str := if (cut && decide (k = 3)) = true then (linksOf k b).take 1 else linksOf k b
theorem dedup_len (l : List Str) : (dedup l).length ≤ l.length := dedN_len l _
theorem linksOf_len (k : Int) (b : Str) : (linksOf k b).length ≤ 1048577 := by
 rw [linksOf]
 split
 ·simp
 ·rename_i h
  have h1 := namesOf_len k b
  have h2 := dedup_len (namesOf k b)
  have h3 : objErr k b = 0 := by
   have h : wholeE k b = 0 := by simpa using h
   rw [wholeE] at h
   by_cases h2 : objErr k b ≠ 0
   ·rw [if_pos h2] at h; exact h
   ·simpa using h2
  have h4 := objErr_len h3
  omega
def itemBad (l : List It) (i : Nat) : Bool := (decide (0 < (i : Int)) && !Op.bytesLess l[i - 1]!.id l[i]!.id) || !decide (wholeE l[i]!.kind l[i]!.body = 0) || !decide (objId l[i]!.kind l[i]!.body = l[i]!.id)
def rightSt (l : List It) : Bool := decide ((l.length : Int) ≤ 65536) && (List.range l.length).all fun i => !itemBad l i
theorem right_big {l : List It} (h : (65536 : Int) < l.length) : rightSt l = false := by rw [rightSt, decide_eq_false (by omega)]; rfl
theorem right_no {l : List It} {i : Nat} (h : i < l.length) (hb : itemBad l i = true) : rightSt l = false := by
 rw [rightSt, Bool.and_eq_false_iff]
 right
 rw [List.all_eq_false]
 exact ⟨i, List.mem_range.2 h, by rw [hb]; simp⟩
theorem right_yes {l : List It} (h0 : (l.length : Int) ≤ 65536) (h : ∀ i, i < l.length → itemBad l i = false) : rightSt l = true := by
 rw [rightSt, decide_eq_true h0, Bool.true_and, List.all_eq_true]
 intro i hi
 rw [h i (List.mem_range.1 hi)]; rfl
def clashP (l : List It) (k : Int) (b : Str) : Bool := placed l (objId k b) && !(decide (l[place l (objId k b)]!.kind = k) && decide (l[place l (objId k b)]!.body = b))
def putE (l : List It) (k : Int) (b : Str) : Int := if wholeE k b ≠ 0 then wholeE k b else if clashP l k b = true then 170 else if (!placed l (objId k b) && decide ((65536 : Int) ≤ l.length)) = true then 4 else 0
def putL (l : List It) (k : Int) (b : Str) : List It := if putE l k b ≠ 0 then [] else if placed l (objId k b) = true then l else l.take (place l (objId k b)) ++ (⟨objId k b, k, b⟩ :: l.drop (place l (objId k b)))
def putI (l : List It) (k : Int) (b : Str) : Str := if putE l k b ≠ 0 then [] else objId k b
theorem place_le (l : List It) (x : Str) : place l x ≤ l.length := by
 rw [place, halve_eq]; exact (hvAt_le _ _ 0 l.length rfl (Nat.zero_le _)).2
theorem placed_lt {l : List It} {x : Str} (h : placed l x = true) : place l x < l.length ∧ l[place l x]!.id = x := by
 simp only [placed, Bool.and_eq_true, decide_eq_true_eq] at h
 exact ⟨by omega, h.2⟩
def uni : List It → List It → List It
 | [], b => b
 | x :: a, [] => x :: a
 | x :: a, y :: b => if Op.bytesLess x.id y.id = true then x :: uni a (y :: b) else if Op.bytesLess y.id x.id = true then y :: uni (x :: a) b else x :: uni a b
 termination_by a b => a.length + b.length
def uniC : List It → List It → Bool
 | [], _ => false
 | _ :: _, [] => false
 | x :: a, y :: b => if Op.bytesLess x.id y.id = true then uniC a (y :: b) else if Op.bytesLess y.id x.id = true then uniC (x :: a) b else (!decide (x = y) || uniC a b)
 termination_by a b => a.length + b.length
end Go.Graft
