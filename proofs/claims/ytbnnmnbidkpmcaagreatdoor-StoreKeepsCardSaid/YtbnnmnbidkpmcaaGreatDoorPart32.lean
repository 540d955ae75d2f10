/- A part of the proof: GHof, GWhl, GRef, Hu. -/
import Derived.Test.YtbnnmnbidkpmcaaGreatDoorPart31
set_option linter.unusedVariables false
set_option linter.unusedSimpArgs false
namespace Go.Graft
open Go.Sym
def idxP {α : Type} (q : α → Bool) (l : List α) : Int := match l.findIdx? q with | some i => (i : Int) | none => -1
theorem idxP_some {α : Type} [Inhabited α] {q : α → Bool} {l : List α} {i : Nat} (h : i < l.length) (hj : ∀ j, j < i → q l[j]! = false) (hi : q l[i]! = true) : idxP q l = (i : Int) := by
  have : l.findIdx? q = some i := by
    rw [List.findIdx?_eq_some_iff_getElem]
    refine ⟨h, by rw [getElem!_pos l i h] at hi; exact hi, fun j hji => ?_⟩
    have := hj j hji
    rw [getElem!_pos l j (by omega)] at this
    simp [this]
  rw [idxP, this]
theorem idxP_none {α : Type} [Inhabited α] {q : α → Bool} {l : List α} (hj : ∀ j, j < l.length → q l[j]! = false) : idxP q l = -1 := by
  have : l.findIdx? q = none := by
    rw [List.findIdx?_eq_none_iff]
    intro x hx
    obtain ⟨i, hi, rfl⟩ := List.getElem_of_mem hx
    have := hj i hi
    rwa [getElem!_pos l i hi] at this
  rw [idxP, this]
theorem idxP_any {α : Type} (q : α → Bool) (l : List α) : decide (0 ≤ idxP q l) = l.any q := by
  rw [idxP]
  cases h : l.findIdx? q with
  | none =>
    rw [List.findIdx?_eq_none_iff] at h
    have : l.any q = false := by rw [List.any_eq_false]; intro x hx; simp [h x hx]
    rw [this]; rfl
  | some i =>
    have : l.any q = true := by
      rw [List.findIdx?_eq_some_iff_getElem] at h
      obtain ⟨h1, h2, _⟩ := h
      rw [List.any_eq_true]
      exact ⟨_, List.getElem_mem h1, h2⟩
    rw [this]
    exact decide_eq_true (show (0 : Int) ≤ (i : Int) by omega)
theorem any_hasS (l : List Str) (x : Str) : (l.any fun y => decide (x = y)) = hasS l x := by
  rw [Bool.eq_iff_iff, List.any_eq_true, hasS, decide_eq_true_eq]
  constructor
  · rintro ⟨y, hy, h⟩
    have : x = y := of_decide_eq_true h
    rw [this]; exact hy
  · intro h; exact ⟨x, h, decide_eq_true rfl⟩
theorem contains_hasZ (s : Str) : Lib.contains s [0] = hasZ s := by
  induction s with
  | nil => rfl
  | cons b r ih =>
    have hge := Lib.index_ge r [0]
    have hz : hasZ (b :: r) = (zC b || hasZ r) := by simp [hasZ]
    rw [hz, ← ih, Lib.contains, Lib.contains, Go.Graft.index_one_cons]
    by_cases h : b = 0
    · subst h
      have : zC 0 = true := by decide
      rw [this]; simp
    · have : zC b = false := by
        rw [zC, decide_eq_false_iff_not]
        intro h2
        exact h (UInt8.toNat.inj (by
          have : b.toNat = 0 := by omega
          rw [this]; rfl))
      rw [this, if_neg h, Bool.false_or]
      refine decide_eq_decide.2 ?_
      split <;> omega
def seenN (l : List Str) : Nat → List Str × List Bool
  | 0 => ([], [])
  | i + 1 => (mkeys (seenN l i).1 l[i]!, mset (seenN l i).1 (seenN l i).2 l[i]! true)
theorem seenN_len (l : List Str) : ∀ i, (seenN l i).1.length = (seenN l i).2.length
  | 0 => rfl
  | i + 1 => mkeys_length _ _ _ _ (seenN_len l i)
theorem seenN_val (l : List Str) (y : Str) : ∀ i, i ≤ l.length → mval (seenN l i).1 (seenN l i).2 false y = hasS (l.take i) y
  | 0, _ => by simp [seenN, mval, kidx, hasS]
  | i + 1, h => by
    have ih := seenN_val l y i (by omega)
    rw [seenN]
    simp only []
    rw [mval_mset _ _ _ _ _ _ (seenN_len l i), take_snoc l i (by omega), ih]
    by_cases e : l[i]! = y
    · rw [if_pos e, e]; simp [hasS]
    · rw [if_neg e, hasS, hasS]
      refine decide_eq_decide.2 ?_
      rw [List.mem_append, List.mem_singleton]
      exact ⟨.inl, fun h => h.resolve_right fun h => e h.symm⟩
theorem tagged_no {s : Str} {i : Nat} (h : i < s.length) (hp : decide (((s.getD i 0).toNat : Int) ≤ 32) = true) : tagged s = false := by
  have : tagBad s = true := by
    rw [tagBad, List.any_eq_true]
    refine ⟨s[i], List.getElem_mem h, ?_⟩
    rw [List.getD_eq_getElem?_getD, List.getElem?_eq_getElem h] at hp
    exact hp
  rw [tagged, this]; rfl
theorem tagged_yes {s : Str} (h : ∀ i, i < s.length → decide (((s.getD i 0).toNat : Int) ≤ 32) = false) : tagged s = (decide ((1 : Int) ≤ s.length) && decide ((s.length : Int) ≤ 64)) := by
  have : tagBad s = false := by
    rw [tagBad, List.any_eq_false]
    intro x hx
    obtain ⟨i, hi, rfl⟩ := List.getElem_of_mem hx
    have := h i hi
    rw [List.getD_eq_getElem?_getD, List.getElem?_eq_getElem hi] at this
    simpa using this
  rw [tagged, this]; rfl
def Pars (s1 : Str) (e1 : Int) (x : Str × Int × List Str) : Prop :=
  (∃ f, x.1.length < f ∧ parsP f x.1 x.2.1 x.2.2 = parsOf s1 e1) ∧ x.2.2.length + (if x.2.1 = 0 then x.1.length else 0) ≤ s1.length + 1 ∧ x.1.length ≤ s1.length ∧ ∀ p ∈ x.2.2, p.length ≤ s1.length
theorem pars_zero (s1 : Str) (e1 : Int) : Pars s1 e1 (s1, e1, []) := ⟨⟨s1.length + 1, by simp, rfl⟩, by simp only [List.length_nil]; split <;> omega, Nat.le_refl _, by simp⟩
def parsM (x : Str × Int × List Str) : Nat := if x.2.1 = 0 then x.1.length + 1 else 0
theorem pars_next {s1 : Str} {e1 : Int} {t : Str} {l : List Str} (h : Pars s1 e1 (t, 0, l)) (hp : Lib.hasPrefix t kPar = true) : Pars s1 e1 (lineR t kPar, rdId t 0 kPar, l ++ [lineV t kPar]) ∧ parsM (lineR t kPar, rdId t 0 kPar, l ++ [lineV t kPar]) < parsM (t, 0, l) := by
  obtain ⟨⟨f, h1, h2⟩, h3, h4, h5⟩ := h
  have hl := prefix_len hp
  have hk : kPar.length = 7 := rfl
  have hR := lineR_le t kPar
  have hV := lineV_le t kPar
  simp only [if_true] at h3
  have hshort : rdId t 0 kPar = 0 → (lineR t kPar).length < t.length := fun h => by
    rw [rdId_zero] at h
    split at h
    · rename_i hh; simp only [Bool.and_eq_true] at hh; exact lineR_short t kPar hh.1
    · omega
  refine ⟨⟨?_, ?_, by simp only at h4 ⊢; omega, fun p hp2 => ?_⟩, ?_⟩
  · cases f with
    | zero => omega
    | succ f =>
      rw [parsP, if_pos ⟨rfl, hp⟩] at h2
      by_cases he : rdId t 0 kPar = 0
      · have := hshort he
        exact ⟨f, by simp only at h1 ⊢; omega, h2⟩
      · refine ⟨(lineR t kPar).length + 1, by simp, ?_⟩
        rw [← h2]
        have key : ∀ g, parsP g (lineR t kPar) (rdId t 0 kPar) (l ++ [lineV t kPar]) = (lineR t kPar, rdId t 0 kPar, l ++ [lineV t kPar]) := fun g => by
          cases g with
          | zero => rfl
          | succ g => rw [parsP, if_neg (fun h => he h.1)]
        rw [key, key]
  · simp only [List.length_append, List.length_singleton] at h3 h4 ⊢
    split
    · rename_i he; have := hshort he; omega
    · omega
  · rcases List.mem_append.1 hp2 with hp2 | hp2
    · exact h5 p hp2
    · rw [List.mem_singleton.1 hp2]; simp only at h4; omega
  · rw [parsM, parsM]
    simp only [if_true]
    split
    · rename_i he; have := hshort he; omega
    · omega
theorem pars_end {s1 : Str} {e1 : Int} {t : Str} {e : Int} {l : List Str} (h : Pars s1 e1 (t, e, l)) (hp : ¬ (e = 0 ∧ Lib.hasPrefix t kPar = true)) : parsOf s1 e1 = (t, e, l) := by
  obtain ⟨⟨f, h1, h2⟩, _⟩ := h
  cases f with
  | zero => omega
  | succ f => rw [← h2, parsP, if_neg hp]
theorem comP_def (s : Str) (s2 : Str) (e2 : Int) (l : List Str) (hq : parsOf (lineR s kTree) (rdId s 0 kTree) = (s2, e2, l)) : comP s =
    (let x := lineV s2 kAut
     let s3 := lineR s2 kAut
     let e3 := rdWho s2 e2 kAut
     let y := lineV s3 kCom
     let s4 := lineR s3 kCom
     let e4 := rdWho s3 e3 kCom
     let e5 := if lineV s4 [] = [] then lnE s4 [] e4 else failE (lnE s4 [] e4) 2
     let c : Com := ⟨lineV s kTree, l, (whoOf x).2, (whoOf y).2, lineR s4 []⟩
     let e6 := if e5 = 0 then comE c else e5
     if e6 = 0 then (0, c) else (e6, zeroCom)) := by
  rw [comP]
  simp only [hq]
end Go.Graft
namespace Go.Graft
open Go.Sym
def wholeE (k : Int) (b : Str) : Int := if objErr k b ≠ 0 then objErr k b else if k = 2 then (treeOf b).1 else if k = 3 then (comR b).1 else if k = 4 then (tgR b).1 else 0
def namesOf (k : Int) (b : Str) : List Str := if k = 2 then (treeOf b).2.map En.id else if k = 3 then (comR b).2.tree :: (comR b).2.pars else if k = 4 then [(tgR b).2.obj] else []
def dedN (l : List Str) : Nat → List Str
  | 0 => []
  | i + 1 => if hasS (dedN l i) l[i]! = true then dedN l i else dedN l i ++ [l[i]!]
theorem dedN_len (l : List Str) : ∀ i, (dedN l i).length ≤ i
  | 0 => Nat.le_refl _
  | i + 1 => by
    have := dedN_len l i
    rw [dedN]
    split
    · omega
    · simp; omega
def dedup (l : List Str) : List Str := dedN l l.length
def linksOf (k : Int) (b : Str) : List Str := if wholeE k b ≠ 0 then [] else dedup (namesOf k b)
theorem objErr_len {k : Int} {b : Str} (h : objErr k b = 0) : b.length ≤ 1048576 := by
  rw [objErr] at h
  split at h
  · omega
  · split at h
    · omega
    · omega
theorem treeOf_len (s : Str) : (treeOf s).2.length ≤ s.length := by
  rw [treeOf]
  split
  · simp
  split
  · simp
  · have key : ∀ (f : Nat) (s : Str) (acc : List En), (parseA f s acc).2.length ≤ acc.length + s.length := by
      intro f
      induction f with
      | zero => intro s acc; rw [parseA]; simp
      | succ f ih =>
        intro s acc
        rw [parseA]
        split
        · simp
        split
        · simp
        · rename_i h1 h2
          have h3 := oneE_short (s := s) (by simpa using h2)
          have h4 := ih (oneE s).2.2 (acc ++ [(oneE s).2.1])
          simp only [List.length_append, List.length_singleton] at h4
          omega
    have := key s.length s []
    simpa [entsA] using this
theorem parsR_len : ∀ (f : Nat) (s : Str) (l : List Str), s.length < f → ∀ s2 l2, parsR f s l = some (s2, l2) → l2.length ≤ l.length + s.length ∧ s2.length ≤ s.length
  | 0, s, l, h, s2, l2, _ => by omega
  | f + 1, s, l, h, s2, l2, he => by
    rw [parsR] at he
    split at he
    · rename_i hl
      have hs := lineR_short s kPar hl
      split at he
      · have := parsR_len f _ _ (by omega) s2 l2 he
        simp only [List.length_append, List.length_singleton] at this
        omega
      · simp at he
    · simp at he
      obtain ⟨rfl, rfl⟩ := he
      omega
theorem comR_len (s : Str) : (comR s).2.pars.length ≤ s.length := by
  rw [comR]
  split
  · simp [zeroCom]
  split
  · simp [zeroCom]
  · rename_i s2 l h
    have h1 := parsR_len _ _ _ (by omega) s2 l h
    have h2 := lineR_le s kTree
    simp only [List.length_nil] at h1
    simp only []
    split
    · simp [zeroCom]
    split
    · simp [zeroCom]
    split
    · simp only; omega
    · simp [zeroCom]
theorem namesOf_len (k : Int) (b : Str) : (namesOf k b).length ≤ b.length + 1 := by
  rw [namesOf]
  split
  · have := treeOf_len b; simp only [List.length_map]; omega
  split
  · have := comR_len b; simp only [List.length_cons]; omega
  split
  · simp
  · simp
theorem tgP_def (s : Str) : tgP s =
    (let s1 := lineR s kObj
     let e1 := rdId s 0 kObj
     let w := lineV s1 kTyp
     let s2 := lineR s1 kTyp
     let e2 := if kindW w = 0 then failE (lnE s1 kTyp e1) 2 else lnE s1 kTyp e1
     let s3 := lineR s2 kTag
     let e3 := lnE s2 kTag e2
     let x := lineV s3 kTgr
     let s4 := lineR s3 kTgr
     let e4 := rdWho s3 e3 kTgr
     let e5 := if lineV s4 [] = [] then lnE s4 [] e4 else failE (lnE s4 [] e4) 2
     let t : Tg := ⟨lineV s kObj, kindW w, lineV s2 kTag, (whoOf x).2, lineR s4 []⟩
     let e6 := if e5 = 0 then tgE t else e5
     if e6 = 0 then (0, t) else (e6, zeroTg)) := rfl
end Go.Graft
namespace Go.Graft
open Go.Sym
def lineA (s : Str) (a : Nat) (w : Str) : Nat := if lineOk (s.drop a) (w ++ [32]) then a + (Lib.index (s.drop a) [10]).toNat + 1 else a
def lineBad (s : Str) (a : Nat) (w : Str) : Bool := decide (findS s [10] a < 0) || decide (findS s [10] a - (a : Int) < ((w.length : Int) + 1)) || !decide ((s.take (a + (w.length + 1))).drop a = w ++ [32])
theorem line_find {s : Str} {a : Nat} (w : Str) (ha : a ≤ s.length) : lineBad s a w = !lineOk (s.drop a) (w ++ [32]) ∧ -1 ≤ findS s [10] a ∧ findS s [10] a < s.length ∧
    (lineOk (s.drop a) (w ++ [32]) = true → ∃ e : Nat, findS s [10] a = (e : Int) ∧ a + (w.length + 1) ≤ e ∧ (s.take e).drop (a + (w.length + 1)) = lineV (s.drop a) (w ++ [32]) ∧ s.drop (e + 1) = lineR (s.drop a) (w ++ [32]) ∧ lineA s a w = e + 1) := by
  have hlt : (s.drop a).length = s.length - a := List.length_drop
  have hsl : (s.take (a + (w.length + 1))).drop a = (s.drop a).take (w.length + 1) := by rw [List.drop_take, Nat.add_sub_cancel_left]
  rw [lineBad, hsl]
  have hwl : (w ++ [32]).length = w.length + 1 := by simp
  rcases cut_nl (s.drop a) with ⟨h1, k, hk, h2, h3, h4⟩ | ⟨h1, hk⟩
  · have hf : findS s [10] a = ((a + k : Nat) : Int) := by rw [findS, hk, if_neg (by omega)]; omega
    have hok : lineOk (s.drop a) (w ++ [32]) = Lib.hasPrefix ((s.drop a).take k) (w ++ [32]) := by rw [lineOk, h1, h3]; rfl
    have hpre : Lib.hasPrefix ((s.drop a).take k) (w ++ [32]) = (decide (w.length + 1 ≤ k) && decide ((s.drop a).take (w.length + 1) = w ++ [32])) := by
      rw [← begins_eq, hwl, List.length_take, List.take_take]
      by_cases hkw : w.length + 1 ≤ k
      · rw [Nat.min_eq_left hkw, decide_eq_true hkw, decide_eq_true (by omega : ((w.length + 1 : Nat) : Int) ≤ ((min k (s.drop a).length : Nat) : Int))]
      · rw [decide_eq_false hkw, decide_eq_false (by omega : ¬ ((w.length + 1 : Nat) : Int) ≤ ((min k (s.drop a).length : Nat) : Int))]
        rfl
    refine ⟨?_, by rw [hf]; omega, by rw [hf]; omega, fun h => ?_⟩
    · rw [hok, hpre, hf, decide_eq_false (by omega : ¬ ((a + k : Nat) : Int) < 0)]
      by_cases hkw : w.length + 1 ≤ k
      · rw [decide_eq_true hkw, decide_eq_false (by omega : ¬ ((a + k : Nat) : Int) - (a : Int) < (w.length : Int) + 1)]; rfl
      · rw [decide_eq_false hkw, decide_eq_true (by omega : ((a + k : Nat) : Int) - (a : Int) < (w.length : Int) + 1)]; rfl
    · have h' := h
      rw [hok, hpre] at h'
      simp only [Bool.and_eq_true, decide_eq_true_eq] at h'
      have hkw : w.length + 1 ≤ k := h'.1
      refine ⟨a + k, hf, by omega, ?_, ?_, ?_⟩
      · rw [lineV, if_pos h, h3, Lib.trimPrefix, if_pos (by rw [← hok]; exact h), hwl, List.drop_take, List.drop_take, List.drop_drop]
        rw [show a + k - (a + (w.length + 1)) = k - (w.length + 1) by omega]
      · rw [lineR, if_pos h, h4, List.drop_drop, Nat.add_assoc]
      · rw [lineA, if_pos h, hk, Int.toNat_natCast]
  · have hf : findS s [10] a = -1 := by rw [findS, hk]; rfl
    have hok : lineOk (s.drop a) (w ++ [32]) = false := by rw [lineOk, h1]; rfl
    refine ⟨?_, by rw [hf]; omega, by rw [hf]; omega, fun h => by rw [hok] at h; simp at h⟩
    rw [hok, hf]
    rfl
theorem lineA_drop {s : Str} {a : Nat} (w : Str) (ha : a ≤ s.length) : s.drop (lineA s a w) = lineR (s.drop a) (w ++ [32]) ∧ lineA s a w ≤ s.length := by
  by_cases h : lineOk (s.drop a) (w ++ [32]) = true
  · obtain ⟨_, _, h3, h4⟩ := line_find w ha
    obtain ⟨e, h5, _, _, h7, h8⟩ := h4 h
    rw [h8]; exact ⟨h7, by omega⟩
  · rw [lineA, if_neg h, lineR, if_neg h]; exact ⟨rfl, ha⟩
def comBad2 (c : Com) : Bool := !isId c.tree || !c.aut.ok || !c.com.ok || hasZ c.text
theorem comBad_eq (c : Com) : comBad c = (comBad2 c || c.pars.any fun p => !isId p) := by
  rw [comBad, comBad2]
  generalize isId c.tree = b1
  generalize (c.pars.any fun p => !isId p) = b2
  generalize c.aut.ok = b3
  generalize c.com.ok = b4
  generalize hasZ c.text = b5
  cases b1 <;> cases b2 <;> cases b3 <;> cases b4 <;> cases b5 <;> rfl
theorem any_take {α : Type} [Inhabited α] (q : α → Bool) (l : List α) (i : Nat) (h : i < l.length) : (l.take (i + 1)).any q = ((l.take i).any q || q l[i]!) := by
  rw [take_snoc l i h, List.any_append]; simp
theorem take_bang {α : Type} [Inhabited α] (l : List α) {i k : Nat} (hk : k < i) (hi : i ≤ l.length) : (l.take i)[k]! = l[k]! := by
  rw [getElem!_pos (l.take i) k (by rw [List.length_take]; omega), getElem!_pos l k (by omega), List.getElem_take]
theorem dup_yes {l : List Str} {i k : Nat} (hi : i < l.length) (hk : k < i) (h : l[i]! = l[k]!) : dupE l i = 6 := by
  rw [dupE, hasS_true (i := k) (by rw [List.length_take]; omega) (by rw [take_bang l hk (by omega)]; exact h.symm), if_pos rfl]
theorem dup_no {l : List Str} {i : Nat} (hi : i < l.length) (h : ∀ k, k < i → l[i]! ≠ l[k]!) : dupE l i = 0 := by
  rw [dupE, hasS_false fun k hk he => ?_]; · rfl
  rw [List.length_take] at hk
  rw [take_bang l (by omega) (by omega)] at he
  exact h k (by omega) he.symm
def tgBad2 (t : Tg) : Bool := !isId t.obj || decide (t.kind < 1) || decide (4 < t.kind) || decide ((t.name.length : Int) < 1) || decide (64 < (t.name.length : Int)) || !t.by'.ok || hasZ t.text
theorem tgBad_eq (t : Tg) : tgBad t = (tgBad2 t || tagBad t.name) := by
  have hk : decide (wordK t.kind = []) = (decide (t.kind < 1) || decide (4 < t.kind)) := by
    by_cases h : t.kind < 1 ∨ 4 < t.kind
    · have : wordK t.kind = [] := by
        rw [wordK, if_neg (by omega), if_neg (by omega), if_neg (by omega), if_neg (by omega)]
      rw [decide_eq_true this]
      rcases h with h | h
      · rw [decide_eq_true h]; rfl
      · rw [decide_eq_true h, Bool.or_true]
    · have : wordK t.kind ≠ [] := by
        obtain h1 | h1 | h1 | h1 : t.kind = 1 ∨ t.kind = 2 ∨ t.kind = 3 ∨ t.kind = 4 := by omega
        all_goals rw [h1]; decide
      rw [decide_eq_false this, decide_eq_false (by omega), decide_eq_false (by omega)]; rfl
  rw [tgBad, tgBad2, tagged, hk]
  have e1 : decide ((1 : Int) ≤ t.name.length) = !decide ((t.name.length : Int) < 1) := by rw [← decide_not]; exact decide_eq_decide.2 (by omega)
  have e2 : decide ((t.name.length : Int) ≤ 64) = !decide (64 < (t.name.length : Int)) := by rw [← decide_not]; exact decide_eq_decide.2 (by omega)
  rw [e1, e2]
  generalize isId t.obj = b1
  generalize decide (t.kind < 1) = b2
  generalize decide (4 < t.kind) = b3
  generalize decide ((t.name.length : Int) < 1) = b4
  generalize decide (64 < (t.name.length : Int)) = b5
  generalize t.by'.ok = b6
  generalize hasZ t.text = b7
  generalize tagBad t.name = b8
  cases b1 <;> cases b2 <;> cases b3 <;> cases b4 <;> cases b5 <;> cases b6 <;> cases b7 <;> cases b8 <;> rfl
def tagN (s : Str) (i : Nat) : Bool := (s.take i).any fun c => decide ((c.toNat : Int) ≤ 32)
theorem tagN_all (s : Str) : tagN s s.length = tagBad s := by rw [tagN, List.take_length]; rfl
theorem tagN_succ (s : Str) (i : Nat) (h : i < s.length) : tagN s (i + 1) = (tagN s i || decide (((s.getD i 0).toNat : Int) ≤ 32)) := by
  rw [tagN, any_take _ _ _ h, getD_bang]; rfl
def ParsR (s : Str) (a0 : Nat) (x : Nat × List Str) : Prop := (∃ f, (s.drop x.1).length < f ∧ parsR f (s.drop x.1) x.2 = parsR ((s.drop a0).length + 1) (s.drop a0) []) ∧ x.1 ≤ s.length ∧ x.2.length + (s.length - x.1) ≤ s.length ∧ ∀ p ∈ x.2, p.length ≤ s.length
theorem parsR_zero {s : Str} {a0 : Nat} (h : a0 ≤ s.length) : ParsR s a0 (a0, []) := ⟨⟨_, Nat.lt_succ_self _, rfl⟩, h, by simp, by simp⟩
theorem parsR_bad {s : Str} {a0 a : Nat} {l : List Str} (h : ParsR s a0 (a, l)) (h1 : lineOk (s.drop a) kPar = true) (h2 : isId (lineV (s.drop a) kPar) = false) : parsR ((s.drop a0).length + 1) (s.drop a0) [] = none := by
  obtain ⟨⟨f, h3, h4⟩, _⟩ := h
  cases f with
  | zero => omega
  | succ f => rw [← h4, parsR, if_pos h1, h2]; rfl
theorem parsR_next {s : Str} {a0 a a2 : Nat} {l : List Str} (h : ParsR s a0 (a, l)) (h1 : lineOk (s.drop a) kPar = true) (h2 : isId (lineV (s.drop a) kPar) = true) (ha : s.drop a2 = lineR (s.drop a) kPar) (ha2 : a2 ≤ s.length) : ParsR s a0 (a2, l ++ [lineV (s.drop a) kPar]) ∧ s.length - a2 < s.length - a := by
  obtain ⟨⟨f, h3, h4⟩, h5, h6, h7⟩ := h
  have h8 := lineR_short _ _ h1
  have hv := lineV_le (s.drop a) kPar
  rw [← ha] at h8
  simp only [List.length_drop] at h8 h3 h5 h6 hv
  refine ⟨⟨?_, ha2, by simp only [List.length_append, List.length_singleton]; omega, fun p hp => ?_⟩, by omega⟩
  · cases f with
    | zero => omega
    | succ f =>
      rw [parsR, if_pos h1, if_pos h2, ← ha] at h4
      exact ⟨f, by rw [List.length_drop]; simp only; omega, h4⟩
  · rcases List.mem_append.1 hp with hp | hp
    · exact h7 p hp
    · rw [List.mem_singleton.1 hp]; omega
theorem parsR_end {s : Str} {a0 a : Nat} {l : List Str} (h : ParsR s a0 (a, l)) (h1 : lineOk (s.drop a) kPar = false) : parsR ((s.drop a0).length + 1) (s.drop a0) [] = some (s.drop a, l) := by
  obtain ⟨⟨f, h3, h4⟩, _⟩ := h
  cases f with
  | zero => omega
  | succ f => rw [← h4, parsR, h1]; rfl
theorem comR_bad {s : Str} (h : (lineOk s kTree && isId (lineV s kTree)) = false) : comR s = (2, zeroCom) := by rw [comR, if_pos h]
theorem comR_none {s : Str} (h : (lineOk s kTree && isId (lineV s kTree)) = true) (h2 : parsR ((lineR s kTree).length + 1) (lineR s kTree) [] = none) : comR s = (2, zeroCom) := by
  rw [comR, if_neg (by rw [h]; simp), h2]
theorem comR_some {s s2 : Str} {l : List Str} (h : (lineOk s kTree && isId (lineV s kTree)) = true) (h2 : parsR ((lineR s kTree).length + 1) (lineR s kTree) [] = some (s2, l)) : comR s =
    (let x := lineV s2 kAut
     let s3 := lineR s2 kAut
     let y := lineV s3 kCom
     let s4 := lineR s3 kCom
     if (decide (whoM (lineOk s2 kAut) x = 0) || decide (whoM (lineOk s3 kCom) y = 0) || decide (s4 = []) || decide (¬ ((s4.getD 0 0).toNat : Int) = 10)) = true then (2, zeroCom)
     else if (decide (whoM (lineOk s2 kAut) x = 1) || decide (whoM (lineOk s3 kCom) y = 1)) = true then (1, zeroCom)
     else
      let c : Com := ⟨lineV s kTree, l, (whoOf x).2, (whoOf y).2, s4.drop 1⟩
      if comE c = 0 then (0, c) else (comE c, zeroCom)) := by
  rw [comR, if_neg (by rw [h]; simp), h2]
theorem drop_nil_iff (s : Str) (a : Nat) : decide (s.drop a = []) = decide ((s.length : Int) ≤ (a : Int)) := decide_eq_decide.2 (by rw [List.drop_eq_nil_iff]; omega)
end Go.Graft
namespace Go.Proofs.Tryz
open Go Go.Sym Go.Graft
set_option maxRecDepth 20000
theorem cLine16 (s w : Str) (a : Nat) (hs : s.length ≤ 1000000000) (ha : a ≤ s.length) (hw : w.length ≤ 1000) : Ctr prog 87 [sV s, iV a, sV w] [] (.tup [sV (lineV (s.drop a) (w ++ [32])), iV (lineA s a w), bV (lineOk (s.drop a) (w ++ [32]))]) [] [] := by
 have c1 := cFind16 s [10] a (by omega) (by simp) (by simp) (by omega)
 obtain ⟨h1, h2, h3, h4⟩ := line_find w ha
 have hno : lineOk (s.drop a) (w ++ [32]) = false → lineV (s.drop a) (w ++ [32]) = [] ∧ lineA s a w = a := fun h => ⟨lineV_no h, by rw [lineA, h]; rfl⟩
 have hb : lineBad s a w = (decide (findS s [10] a < 0) || decide (findS s [10] a - (a : Int) < ((w.length : Int) + 1)) || !decide ((s.take (a + (w.length + 1))).drop a = w ++ [32])) := rfl
 generalize lineBad s a w = lb at *
 generalize lineOk (s.drop a) (w ++ [32]) = ok at *
 generalize lineV (s.drop a) (w ++ [32]) = v at *
 generalize lineA s a w = a2 at *
 generalize findS s [10] a = f at *
 refine Ctr.enter tblOk func87 rfl (by decide) rfl (nt := 46) rfl rfl rfl rfl ?_
 refine Trip.sr tblOk ?_
 refine Trip.sR tblOk (by repeat' (first | exact rfl | (apply Rule.sem; intro hγ; with_reducible apply F_call0 (x := .func 133) (B := []) hγ (hspec := c1)) | ((with_reducible refine Side.mk ?_); exact .inl rfl) | constructor)) ?_
 refine Trip.sR tblOk (by repeat' (first | exact rfl | ((with_reducible refine Side.mk ?_); omega) | constructor)) ?_
 refine Trip.seq (Trip.sR tblOk (by repeat' (first | exact rfl | (apply Rule.under tblOk; intro hγ; with_reducible apply Rule.slice) | ((first | with_reducible refine bok ?_ | with_reducible refine Side.mk ?_); first | omega | exact fun h => h | exact fun _ h => congrArg Bool.not h | (simp only [ln]; first | done | omega) | exact fun _ => hγ | (have h2 := hγ; simp only [gpick, cond_true, cond_false, decide_eq_true_eq, Bool.and_eq_true, Bool.or_eq_true, Bool.not_eq_true', Bool.not_eq_false', Bool.or_eq_false_iff, decide_eq_false_iff_not, List.length_map] at h2; (try simp only [List.length_map]); omega)) | constructor)) ?_)
 apply Trip.cond (.tmp rfl)
 ·intro h
  have h : lb = true := by rw [hb]; exact h
  have h : ok = false := by rw [h1] at h; simpa using h
  subst h
  obtain ⟨g1, g2⟩ := hno rfl
  rw [g1, g2]
  refine Trip.sr tblOk ?_
  refine Trip.ret (rt3 [] (he := by repeat' (exact cvB (by simp only [List.length_map]))))
 intro h
 have h : lb = false := by rw [hb]; exact h
 have h : ok = true := by rw [h1] at h; simpa using h
 subst h
 obtain ⟨e, rfl, g1, g2, _, g3⟩ := h4 rfl
 rw [← g2, g3]
 refine Trip.skip (Trip.sR tblOk (by repeat' (first | exact rfl | ((first | with_reducible refine bok ?_ | with_reducible refine Side.mk ?_); omega) | constructor)) ?_)
 refine Trip.ret (rt3 [] (he := by repeat' (exact cvB (by simp only [List.length_map]))))
theorem cWho16 (x : Str) (b : Bool) (hx : x.length ≤ 1000000000) : Ctr prog 89 [sV x, bV b] [] (.tup [(whoOf x).2.pv, iV (whoM b x)]) [] [] := by
 have c1 := cParseWho16 x hx
 have hm : whoM b x = if b = false ∨ (whoOf x).1 = 2 then 0 else if (whoOf x).1 ≠ 0 then 1 else 2 := rfl
 generalize whoM b x = m at *
 generalize whoOf x = q at *
 obtain ⟨e, p⟩ := q
 dsimp only at *
 refine Ctr.enter tblOk func89 rfl (by decide) rfl (nt := 24) rfl rfl rfl rfl ?_
 refine Trip.sr tblOk ?_
 refine Trip.sR tblOk (by repeat' (first | exact rfl | (apply Rule.sem; intro hγ; with_reducible apply F_call0 (x := .func 135) (B := []) hγ (hspec := c1)) | ((with_reducible refine Side.mk ?_); exact .inl rfl) | constructor)) ?_
 refine Trip.seq (Trip.sR tblOk (by repeat' (first | exact rfl | ((with_reducible refine Side.mk ?_); first | exact fun h => h | exact fun _ h => congrArg Bool.not h) | constructor)) ?_)
 apply Trip.cond (.tmp rfl)
 ·intro h
  have h : b = false ∨ e = 2 := by simpa using h
  rw [if_pos h] at hm
  subst hm
  refine Trip.sr tblOk ?_
  refine Trip.ret (rt2 [])
 intro h
 have h : ¬ (b = false ∨ e = 2) := by
  have h : (!b || decide (e = 2)) = false := h
  intro h2
  rcases h2 with rfl | h2
  ·simp at h
  ·rw [decide_eq_true h2] at h; simp at h
 rw [if_neg h] at hm
 refine Trip.skip (Trip.seq (Trip.sr tblOk ?_))
 apply Trip.cond (.tmp rfl)
 ·intro h2
  have h2 : e ≠ 0 := by simpa using h2
  rw [if_pos h2] at hm
  subst hm
  refine Trip.sr tblOk ?_
  refine Trip.ret (rt2 [])
 intro h2
 have h2 : e = 0 := by simpa using h2
 rw [if_neg (by simp [h2])] at hm
 subst hm
 refine Trip.skip (Trip.sr tblOk ?_)
 refine Trip.ret (rt2 [])
end Go.Proofs.Tryz
