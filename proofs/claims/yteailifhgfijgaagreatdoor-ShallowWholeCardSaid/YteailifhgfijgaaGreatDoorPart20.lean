/- A part of the proof: GOrd, GSto, GRea, GUni, GRig. -/
import Derived.Test.YteailifhgfijgaaGreatDoorPart19
set_option linter.unusedVariables false
set_option linter.unusedSimpArgs false
namespace Go.Graft
abbrev bl (a b : Str) : Bool := Op.bytesLess a b
theorem u8_tri (a b : UInt8) : a < b ∨ b < a ∨ a = b := by
 rcases Nat.lt_trichotomy a.toNat b.toNat with h | h | h
 ·exact .inl (UInt8.lt_iff_toNat_lt.2 h)
 ·exact .inr (.inr (UInt8.toNat.inj h))
 ·exact .inr (.inl (UInt8.lt_iff_toNat_lt.2 h))
theorem u8_irr (a : UInt8) : ¬ a < a := fun h => by have := UInt8.lt_iff_toNat_lt.1 h; omega
theorem u8_asym {a b : UInt8} (h : a < b) : ¬ b < a := fun h' => by
 have h3 := UInt8.lt_iff_toNat_lt.1 h; have h4 := UInt8.lt_iff_toNat_lt.1 h'; omega
theorem u8_trans {a b c : UInt8} (h : a < b) (h' : b < c) : a < c := by
 have h3 := UInt8.lt_iff_toNat_lt.1 h; have h4 := UInt8.lt_iff_toNat_lt.1 h'; exact UInt8.lt_iff_toNat_lt.2 (by omega)
theorem bl_cons (a b : UInt8) (x y : Str) : bl (a :: x) (b :: y) = true ↔ a < b ∨ (a = b ∧ bl x y = true) := by
 simp only [bl, Op.bytesLess]
 rcases u8_tri a b with h | h | h
 ·have hne : ¬ a = b := fun e => u8_irr b (e ▸ h)
  simp [h]
 ·have hne : ¬ a = b := fun e => u8_irr b (e ▸ h)
  have hnl := u8_asym h
  simp [hne, hnl]
 ·subst h
  simp
theorem bl_irr : ∀ a : Str, bl a a = false
 | [] => rfl
 | b :: r => by
  have ih := bl_irr r
  cases h : bl (b :: r) (b :: r) with
  | false => rfl
  | true =>
   rw [bl_cons] at h
   rcases h with h | h
   ·exact absurd h (u8_irr b)
   ·rw [ih] at h; simp at h
theorem bl_trans : ∀ {a b c : Str}, bl a b = true → bl b c = true → bl a c = true
 | [], b, [], _, h => by cases b <;> simp [bl, Op.bytesLess] at h
 | [], _, _ :: _, _, _ => rfl
 | a :: x, [], c, h, _ => by simp [bl, Op.bytesLess] at h
 | a :: x, b :: y, [], _, h => by simp [bl, Op.bytesLess] at h
 | a :: x, b :: y, c :: z, h, h' => by
  rw [bl_cons] at *
  rcases h with h | ⟨rfl, h⟩ <;> rcases h' with h' | ⟨rfl, h'⟩
  ·exact .inl (u8_trans h h')
  ·exact .inl h
  ·exact .inl h'
  ·exact .inr ⟨rfl, bl_trans h h'⟩
theorem bl_tri : ∀ a b : Str, bl a b = true ∨ bl b a = true ∨ a = b
 | [], [] => .inr (.inr rfl)
 | [], _ :: _ => .inl rfl
 | _ :: _, [] => .inr (.inl rfl)
 | a :: x, b :: y => by
  rw [bl_cons, bl_cons]
  rcases u8_tri a b with h | h | rfl
  ·exact .inl (.inl h)
  ·exact .inr (.inl (.inl h))
  ·rcases bl_tri x y with h | h | rfl
   ·exact .inl (.inr ⟨rfl, h⟩)
   ·exact .inr (.inl (.inr ⟨rfl, h⟩))
   ·exact .inr (.inr rfl)
theorem bl_asym {a b : Str} (h : bl a b = true) : bl b a = false := by
 cases h' : bl b a with
 | false => rfl
 | true => have := bl_trans h h'; rw [bl_irr] at this; simp at this
theorem bl_ne {a b : Str} (h : bl a b = true) : a ≠ b := fun e => by rw [e, bl_irr] at h; simp at h
theorem hvAt_spec (less : Nat → Bool) (hm : ∀ i j, i ≤ j → less j = true → less i = true) : ∀ (d lo hi : Nat), hi - lo = d → lo ≤ hi → (∀ i, i < lo → less i = true) → (∀ i, hi ≤ i → less i = false) →
  (∀ i, i < hvAt less lo hi → less i = true) ∧ ∀ i, hvAt less lo hi ≤ i → less i = false := by
 intro d
 induction d using Nat.strongRecOn with
 | _ d ih =>
  intro lo hi hd hle h1 h2
  by_cases h : lo < hi
  ·rw [hvAt_lt less lo hi h]
   split
   ·rename_i hl
    exact ih (hi - ((lo + hi) / 2 + 1)) (by omega) ((lo + hi) / 2 + 1) hi rfl (by omega) (fun i hi => hm i _ (by omega) hl) h2
   ·rename_i hl
    have hl : less ((lo + hi) / 2) = false := by simpa using hl
    refine ih ((lo + hi) / 2 - lo) (by omega) lo ((lo + hi) / 2) rfl (by omega) h1 fun i hi2 => ?_
    cases h3 : less i with
    | false => rfl
    | true => have := hm _ i hi2 h3; rw [hl] at this; simp at this
  ·rw [hvAt_ge less lo hi h]
   exact ⟨h1, fun i hi2 => h2 i (by omega)⟩
def asc (l : List Str) : Prop := l.Pairwise fun a b => bl a b = true
theorem asc_at {l : List Str} (h : asc l) {i j : Nat} (hij : i < j) (hj : j < l.length) : bl l[i]! l[j]! = true := by
 rw [getElem!_pos l i (by omega), getElem!_pos l j hj]
 exact List.pairwise_iff_getElem.1 h i j (by omega) hj hij
theorem asc_nodup {l : List Str} (h : asc l) : l.Nodup := h.imp bl_ne
theorem spot_spec {l : List Str} (h : asc l) (x : Str) : spot l x ≤ l.length ∧ (∀ i, i < spot l x → bl l[i]! x = true) ∧ ∀ i, spot l x ≤ i → i < l.length → bl l[i]! x = false := by
 have key := hvAt_spec (fun i => decide (i < l.length) && bl l[i]! x) (fun i j hij hj => by
  simp only [Bool.and_eq_true, decide_eq_true_eq] at hj ⊢
  refine ⟨by omega, ?_⟩
  by_cases e : i = j
  ·subst e; exact hj.2
  ·exact bl_trans (asc_at h (by omega) hj.1) hj.2) l.length 0 l.length (by omega) (by omega) (fun i hi => by omega) (fun i hi => by simp; omega)
 have e : hvAt (fun i => decide (i < l.length) && bl l[i]! x) 0 l.length = spot l x := by
  rw [spot, halve_eq]
  have gen : ∀ (d lo hi : Nat), hi - lo = d → hi ≤ l.length → hvAt (fun i => decide (i < l.length) && bl l[i]! x) lo hi = hvAt (fun i => Op.bytesLess l[i]! x) lo hi := by
   intro d
   induction d using Nat.strongRecOn with
   | _ d ih =>
    intro lo hi hd hle
    by_cases hlt : lo < hi
    ·rw [hvAt_lt _ lo hi hlt, hvAt_lt _ lo hi hlt, decide_eq_true (by omega : (lo + hi) / 2 < l.length), Bool.true_and]
     split
     ·exact ih _ (by omega) _ _ rfl hle
     ·exact ih _ (by omega) _ _ rfl (by omega)
    ·rw [hvAt_ge _ lo hi hlt, hvAt_ge _ lo hi hlt]
  exact gen _ 0 l.length rfl (Nat.le_refl _)
 rw [e] at key
 have hle := (hvAt_le (fun i => Op.bytesLess l[i]! x) _ 0 l.length rfl (by omega)).2
 rw [← halve_eq] at hle
 refine ⟨hle, fun i hi => ?_, fun i h1 h2 => ?_⟩
 ·have := key.1 i hi; simp only [Bool.and_eq_true] at this; exact this.2
 ·have := key.2 i h1
  simp only [Bool.and_eq_false_iff, decide_eq_false_iff_not] at this
  exact this.resolve_left (by omega)
def holdsP (l : List Str) (x : Str) : Bool := decide (spot l x < l.length) && decide (l[spot l x]! = x)
theorem holds_iff {l : List Str} (h : asc l) (x : Str) : holdsP l x = true ↔ x ∈ l := by
 obtain ⟨h1, h2, h3⟩ := spot_spec h x
 simp only [holdsP, Bool.and_eq_true, decide_eq_true_eq]
 constructor
 ·rintro ⟨h4, h5⟩
  rw [← h5, getElem!_pos l _ h4]
  exact List.getElem_mem h4
 ·intro hx
  obtain ⟨i, hi, rfl⟩ := List.getElem_of_mem hx
  have e : spot l l[i] = i := by
   rcases Nat.lt_trichotomy (spot l l[i]) i with h4 | h4 | h4
   ·have := h3 _ (Nat.le_refl _) (by omega)
    have h5 := asc_at h h4 hi
    rw [getElem!_pos l i hi] at h5
    rw [h5] at this; simp at this
   ·exact h4
   ·have := h2 i h4
    rw [getElem!_pos l i hi, bl_irr] at this; simp at this
  rw [e, getElem!_pos l i hi]
  exact ⟨hi, rfl⟩
def insS (l : List Str) (x : Str) : List Str := if holdsP l x = true then l else l.take (spot l x) ++ [x] ++ l.drop (spot l x)
theorem insS_mem {l : List Str} (x y : Str) (h : asc l) : y ∈ insS l x ↔ y = x ∨ y ∈ l := by
 rw [insS]
 split
 ·rename_i hx
  have := (holds_iff h x).1 hx
  constructor
  ·exact .inr
  ·rintro (rfl | h); exact this; exact h
 ·rw [List.mem_append, List.mem_append, List.mem_singleton]
  have e : y ∈ l ↔ y ∈ l.take (spot l x) ∨ y ∈ l.drop (spot l x) := by rw [← List.mem_append, List.take_append_drop]
  rw [e]
  constructor
  ·rintro ((h | h) | h)
   ·exact .inr (.inl h)
   ·exact .inl h
   ·exact .inr (.inr h)
  ·rintro (h | h | h)
   ·exact .inl (.inr h)
   ·exact .inl (.inl h)
   ·exact .inr h
theorem insS_asc {l : List Str} (x : Str) (h : asc l) : asc (insS l x) := by
 rw [insS]
 split
 ·exact h
 ·rename_i hx
  obtain ⟨h1, h2, h3⟩ := spot_spec h x
  have h4 : ∀ i, spot l x ≤ i → i < l.length → bl x l[i]! = true := by
   intro i hi hil
   have h5 := h3 i hi hil
   rcases bl_tri x l[i]! with h6 | h6 | h6
   ·exact h6
   ·rw [h5] at h6; simp at h6
   ·exfalso
    apply hx
    rw [holds_iff h]
    rw [h6, getElem!_pos l i hil]
    exact List.getElem_mem hil
  have ht : ∀ a ∈ l.take (spot l x), bl a x = true := by
   intro a ha
   obtain ⟨i, hi, rfl⟩ := List.getElem_of_mem ha
   rw [List.length_take] at hi
   have := h2 i (by omega)
   rw [getElem!_pos l i (by omega)] at this
   rw [List.getElem_take]; exact this
  have hd : ∀ b ∈ l.drop (spot l x), bl x b = true := by
   intro b hb
   obtain ⟨i, hi, rfl⟩ := List.getElem_of_mem hb
   rw [List.length_drop] at hi
   have := h4 (spot l x + i) (by omega) (by omega)
   rw [getElem!_pos l _ (by omega)] at this
   rw [List.getElem_drop]; exact this
  rw [asc, List.append_assoc, List.pairwise_append]
  refine ⟨h.sublist (List.take_sublist _ _), ?_, ?_⟩
  ·rw [List.singleton_append, List.pairwise_cons]
   exact ⟨hd, h.sublist (List.drop_sublist _ _)⟩
  ·intro a ha b hb
   rw [List.singleton_append, List.mem_cons] at hb
   rcases hb with rfl | hb
   ·exact ht a ha
   ·exact bl_trans (ht a ha) (hd b hb)
theorem asc_unique : ∀ {a b : List Str}, asc a → asc b → (∀ x, x ∈ a ↔ x ∈ b) → a = b
 | [], [], _, _, _ => rfl
 | [], y :: b, _, _, h => by have := (h y).2 (by simp); simp at this
 | x :: a, [], _, _, h => by have := (h x).1 (by simp); simp at this
 | x :: a, y :: b, ha, hb, h => by
  have ha' := List.pairwise_cons.1 ha
  have hb' := List.pairwise_cons.1 hb
  have e : x = y := by
   rcases List.mem_cons.1 ((h x).1 (by simp)) with e | hx
   ·exact e
   ·rcases List.mem_cons.1 ((h y).2 (by simp)) with e | hy
    ·exact e.symm
    ·have h1 := hb'.1 x hx
     have h2 := ha'.1 y hy
     rw [bl_asym h1] at h2; simp at h2
  subst e
  congr 1
  refine asc_unique ha'.2 hb'.2 fun z => ?_
  have hz := h z
  rw [List.mem_cons, List.mem_cons] at hz
  constructor
  ·intro hza
   rcases hz.1 (.inr hza) with rfl | h5
   ·have := ha'.1 z hza; rw [bl_irr] at this; simp at this
   ·exact h5
  ·intro hzb
   rcases hz.2 (.inr hzb) with rfl | h5
   ·have := hb'.1 z hzb; rw [bl_irr] at this; simp at this
   ·exact h5
def sortN (l : List Str) : Nat → List Str
 | 0 => []
 | i + 1 => insS (sortN l i) l[i]!
theorem sortN_asc (l : List Str) : ∀ i, asc (sortN l i)
 | 0 => .nil
 | i + 1 => insS_asc _ (sortN_asc l i)
theorem sortN_mem (l : List Str) (x : Str) : ∀ i, i ≤ l.length → (x ∈ sortN l i ↔ x ∈ l.take i)
 | 0, _ => by simp [sortN]
 | i + 1, h => by
  rw [sortN, insS_mem _ _ (sortN_asc l i), sortN_mem l x i (by omega), take_snoc l i (by omega), List.mem_append, List.mem_singleton, or_comm]
def sortS (l : List Str) : List Str := sortN l l.length
theorem sortS_asc (l : List Str) : asc (sortS l) := sortN_asc l _
theorem sortS_mem (l : List Str) (x : Str) : x ∈ sortS l ↔ x ∈ l := by rw [sortS, sortN_mem l x _ (Nat.le_refl _), List.take_length]
theorem insS_len (l : List Str) (x : Str) : (insS l x).length ≤ l.length + 1 := by
 rw [insS]
 split
 ·omega
 ·simp only [List.length_append, List.length_take, List.length_drop, List.length_singleton]; omega
theorem sortN_len (l : List Str) : ∀ i, (sortN l i).length ≤ i
 | 0 => Nat.le_refl _
 | i + 1 => by have := sortN_len l i; have := insS_len (sortN l i) l[i]!; rw [sortN]; omega
end Go.Graft
namespace Go.Graft
open Go.Sym
def nmsOf (k : Int) (b : Str) (cut : Bool) : List Str := if (cut && decide (k = 3)) = true then (linksOf k b).take 1 else linksOf k b
theorem dedup_len (l : List Str) : (dedup l).length ≤ l.length := dedN_len l _
theorem linksOf_len (k : Int) (b : Str) : (linksOf k b).length ≤ 1048577 := by
 rw [linksOf]
 split
 ·simp
 ·rename_i h
  have h1 := namesOf_len k b
  have h2 := dedup_len (namesOf k b)
  have h3 : objErr k b = 0 := by
   have h : wholeE k b = 0 := by simpa using h
   rw [wholeE] at h
   by_cases h2 : objErr k b ≠ 0
   ·rw [if_pos h2] at h; exact h
   ·simpa using h2
  have h4 := objErr_len h3
  omega
def itemBad (l : List It) (i : Nat) : Bool := (decide (0 < (i : Int)) && !Op.bytesLess l[i - 1]!.id l[i]!.id) || !decide (wholeE l[i]!.kind l[i]!.body = 0) || !decide (objId l[i]!.kind l[i]!.body = l[i]!.id)
def rightSt (l : List It) : Bool := decide ((l.length : Int) ≤ 65536) && (List.range l.length).all fun i => !itemBad l i
theorem right_big {l : List It} (h : (65536 : Int) < l.length) : rightSt l = false := by rw [rightSt, decide_eq_false (by omega)]; rfl
theorem right_no {l : List It} {i : Nat} (h : i < l.length) (hb : itemBad l i = true) : rightSt l = false := by
 rw [rightSt, Bool.and_eq_false_iff]
 right
 rw [List.all_eq_false]
 exact ⟨i, List.mem_range.2 h, by rw [hb]; simp⟩
theorem right_yes {l : List It} (h0 : (l.length : Int) ≤ 65536) (h : ∀ i, i < l.length → itemBad l i = false) : rightSt l = true := by
 rw [rightSt, decide_eq_true h0, Bool.true_and, List.all_eq_true]
 intro i hi
 rw [h i (List.mem_range.1 hi)]; rfl
def clashP (l : List It) (k : Int) (b : Str) : Bool := placed l (objId k b) && !(decide (l[place l (objId k b)]!.kind = k) && decide (l[place l (objId k b)]!.body = b))
def putE (l : List It) (k : Int) (b : Str) : Int := if wholeE k b ≠ 0 then wholeE k b else if clashP l k b = true then 170 else if (!placed l (objId k b) && decide ((65536 : Int) ≤ l.length)) = true then 4 else 0
def putL (l : List It) (k : Int) (b : Str) : List It := if putE l k b ≠ 0 then [] else if placed l (objId k b) = true then l else l.take (place l (objId k b)) ++ (⟨objId k b, k, b⟩ :: l.drop (place l (objId k b)))
def putI (l : List It) (k : Int) (b : Str) : Str := if putE l k b ≠ 0 then [] else objId k b
theorem place_le (l : List It) (x : Str) : place l x ≤ l.length := by
 rw [place, halve_eq]; exact (hvAt_le _ _ 0 l.length rfl (Nat.zero_le _)).2
theorem placed_lt {l : List It} {x : Str} (h : placed l x = true) : place l x < l.length ∧ l[place l x]!.id = x := by
 simp only [placed, Bool.and_eq_true, decide_eq_true_eq] at h
 exact ⟨by omega, h.2⟩
def uni : List It → List It → List It
 | [], b => b
 | x :: a, [] => x :: a
 | x :: a, y :: b => if Op.bytesLess x.id y.id = true then x :: uni a (y :: b) else if Op.bytesLess y.id x.id = true then y :: uni (x :: a) b else x :: uni a b
 termination_by a b => a.length + b.length
def uniC : List It → List It → Bool
 | [], _ => false
 | _ :: _, [] => false
 | x :: a, y :: b => if Op.bytesLess x.id y.id = true then uniC a (y :: b) else if Op.bytesLess y.id x.id = true then uniC (x :: a) b else (!decide (x = y) || uniC a b)
 termination_by a b => a.length + b.length
end Go.Graft
namespace Go.Graft
open Go.Sym
def seenL (l : List Str) : List Str × List Bool := seenN l l.length
theorem seenN_app (l m : List Str) : ∀ i, i ≤ l.length → seenN (l ++ m) i = seenN l i
 | 0, _ => rfl
 | i + 1, h => by
  have ih := seenN_app l m i (by omega)
  have e : (l ++ m)[i]! = l[i]! := by
   rw [getElem!_pos _ i (by rw [List.length_append]; omega), getElem!_pos _ i (by omega), List.getElem_append_left]
  rw [seenN, seenN, ih, e]
theorem seenL_snoc (l : List Str) (x : Str) : seenL (l ++ [x]) = (mkeys (seenL l).1 x, mset (seenL l).1 (seenL l).2 x true) := by
 have e : (l ++ [x])[l.length]! = x := by
  rw [getElem!_pos _ l.length (by simp)]; simp
 rw [seenL, List.length_append, List.length_singleton, seenN, seenN_app l [x] _ (Nat.le_refl _), e]
 rfl
theorem seenL_len (l : List Str) : (seenL l).1.length = (seenL l).2.length := seenN_len l _
theorem seenL_val (l : List Str) (y : Str) : mval (seenL l).1 (seenL l).2 false y = hasS l y := by
 rw [seenL, seenN_val l y _ (Nat.le_refl _), List.take_length]
theorem hasS_iff (l : List Str) (x : Str) : hasS l x = true ↔ x ∈ l := by
 simp [hasS]
def nmAt (l : List It) (cuts : List Str) (x : Str) : List Str := nmsOf l[place l x]!.kind l[place l x]!.body (hasS cuts x)
inductive Rch (l : List It) (cuts frm : List Str) : Str → Prop
 | start {x : Str} : x ∈ frm → Rch l cuts frm x
 | step {x y : Str} : Rch l cuts frm x → placed l x = true → y ∈ nmAt l cuts x → Rch l cuts frm y
structure IsReach (l : List It) (cuts frm have' lack : List Str) : Prop where
 a1 : asc have'
 a2 : asc lack
 m1 : ∀ x, x ∈ have' ↔ Rch l cuts frm x ∧ placed l x = true
 m2 : ∀ x, x ∈ lack ↔ Rch l cuts frm x ∧ placed l x = false
theorem IsReach.uniq {l : List It} {cuts frm a b c d : List Str} (h : IsReach l cuts frm a b) (k : IsReach l cuts frm c d) : a = c ∧ b = d :=
 ⟨asc_unique h.a1 k.a1 fun x => (h.m1 x).trans (k.m1 x).symm, asc_unique h.a2 k.a2 fun x => (h.m2 x).trans (k.m2 x).symm⟩
structure Onway (l : List It) (cuts frm met next : List Str) : Prop where
 nd : met.Nodup
 r1 : ∀ x ∈ met, Rch l cuts frm x
 r2 : ∀ x ∈ next, Rch l cuts frm x
 f : ∀ x ∈ frm, x ∈ met ∨ x ∈ next
 c : ∀ x ∈ met, placed l x = true → ∀ y ∈ nmAt l cuts x, y ∈ met ∨ y ∈ next
theorem Onway.start (l : List It) (cuts frm : List Str) : Onway l cuts frm [] frm :=
 ⟨List.nodup_nil, by simp, fun x h => .start h, fun x h => .inr h, by simp⟩
theorem Onway.old {l : List It} {cuts frm met next next' : List Str} {x : Str} (h : Onway l cuts frm met next) (hn : ∀ y, y ∈ next ↔ y = x ∨ y ∈ next') (hx : x ∈ met) : Onway l cuts frm met next' where
 nd := h.nd
 r1 := h.r1
 r2 := fun y hy => h.r2 y ((hn y).2 (.inr hy))
 f := fun y hy => (h.f y hy).elim .inl fun k => ((hn y).1 k).elim (fun e => .inl (e ▸ hx)) .inr
 c := fun y hy hp z hz => (h.c y hy hp z hz).elim .inl fun k => ((hn z).1 k).elim (fun e => .inl (e ▸ hx)) .inr
theorem Onway.new {l : List It} {cuts frm met next next' met' : List Str} {x : Str} (h : Onway l cuts frm met next) (hn : ∀ y, y ∈ next → y = x ∨ y ∈ next') (hn2 : ∀ y, y ∈ next' → y ∈ next ∨ (placed l x = true ∧ y ∈ nmAt l cuts x)) (hxn : x ∈ next)
  (hx : x ∉ met) (hm : ∀ y, y ∈ met' ↔ y = x ∨ y ∈ met) (hnd : met'.Nodup) (hc : placed l x = true → ∀ y ∈ nmAt l cuts x, y ∈ next') : Onway l cuts frm met' next' where
 nd := hnd
 r1 := fun y hy => ((hm y).1 hy).elim (fun e => e ▸ h.r2 x hxn) (h.r1 y)
 r2 := fun y hy => (hn2 y hy).elim (h.r2 y) fun k => .step (h.r2 x hxn) k.1 k.2
 f := fun y hy => (h.f y hy).elim (fun k => .inl ((hm y).2 (.inr k))) fun k => (hn y k).elim (fun e => .inl ((hm y).2 (.inl e))) .inr
 c := fun y hy hp z hz => ((hm y).1 hy).elim (fun e => by subst e; exact .inr (hc hp z hz)) fun k => (h.c y k hp z hz).elim (fun k => .inl ((hm z).2 (.inr k))) fun k => (hn z k).elim (fun e => .inl ((hm z).2 (.inl e))) .inr
theorem Onway.done {l : List It} {cuts frm met : List Str} (h : Onway l cuts frm met []) (x : Str) : x ∈ met ↔ Rch l cuts frm x := by
 refine ⟨h.r1 x, fun hx => ?_⟩
 induction hx with
 | start hx => exact (h.f _ hx).elim id fun k => by simp at k
 | step _ hp hy ih => exact (h.c _ ih hp _ hy).elim id fun k => by simp at k
def toCome (l : List It) (cuts met : List Str) : List It → Nat
 | [] => 0
 | it :: r => (if hasS met it.id = true then 0 else 1 + (nmAt l cuts it.id).length) + toCome l cuts met r
theorem toCome_mono (l : List It) (cuts : List Str) {met met' : List Str} (h : ∀ x, x ∈ met → x ∈ met') : ∀ r, toCome l cuts met' r ≤ toCome l cuts met r
 | [] => Nat.le_refl _
 | it :: r => by
  have ih := toCome_mono l cuts h r
  simp only [toCome]
  by_cases h1 : hasS met it.id = true
  ·have h2 : hasS met' it.id = true := (hasS_iff _ _).2 (h _ ((hasS_iff _ _).1 h1))
   rw [if_pos h1, if_pos h2]; omega
  ·rw [if_neg h1]
   split <;> omega
theorem toCome_new (l : List It) (cuts : List Str) {met met' : List Str} {x : Str} (h : ∀ y, y ∈ met' ↔ y = x ∨ y ∈ met) (hx : x ∉ met) : ∀ r : List It, (∃ it ∈ r, it.id = x) → toCome l cuts met' r + 1 + (nmAt l cuts x).length ≤ toCome l cuts met r
 | [], hr => by simp at hr
 | it :: r, hr => by
  have hm := toCome_mono l cuts (met := met) (met' := met') (fun y hy => (h y).2 (.inr hy)) r
  simp only [toCome]
  by_cases e : it.id = x
  ·have h1 : ¬ hasS met it.id = true := fun k => hx (e ▸ (hasS_iff _ _).1 k)
   have h2 : hasS met' it.id = true := (hasS_iff _ _).2 ((h _).2 (.inl e))
   rw [if_neg h1, if_pos h2, e]; omega
  ·have ih := toCome_new l cuts h hx r (by
    obtain ⟨it', hm', he'⟩ := hr
    rcases List.mem_cons.1 hm' with rfl | hm'
    ·exact absurd he' e
    ·exact ⟨it', hm', he'⟩)
   have h3 : hasS met' it.id = hasS met it.id := by
    rw [Bool.eq_iff_iff, hasS_iff, hasS_iff, h]
    exact ⟨fun k => k.resolve_left e, .inr⟩
   rw [h3]; omega
theorem toCome_le (l : List It) (cuts met : List Str) : ∀ r : List It, toCome l cuts met r ≤ r.length * 1048578
 | [] => Nat.le_refl _
 | it :: r => by
  have ih := toCome_le l cuts met r
  have h : (nmAt l cuts it.id).length ≤ 1048577 := by
   rw [nmAt, nmsOf]
   have := linksOf_len l[place l it.id]!.kind l[place l it.id]!.body
   split
   ·rw [List.length_take]; omega
   ·exact this
  simp only [toCome, List.length_cons, Nat.succ_mul]
  split <;> omega
theorem placed_mem {l : List It} {x : Str} (h : placed l x = true) : ∃ it ∈ l, it.id = x := by
 obtain ⟨h1, h2⟩ := placed_lt h
 rw [getElem!_pos l _ h1] at h2
 exact ⟨_, List.getElem_mem h1, h2⟩
theorem nmAt_len (l : List It) (cuts : List Str) (x : Str) : (nmAt l cuts x).length ≤ 1048577 := by
 rw [nmAt, nmsOf]
 have := linksOf_len l[place l x]!.kind l[place l x]!.body
 split
 ·rw [List.length_take]; omega
 ·exact this
theorem Onway.reach {l : List It} {cuts frm met a b : List Str} (h : Onway l cuts frm met []) (ha : asc a) (hb : asc b) (h1 : ∀ x, x ∈ a ↔ x ∈ met.filter (placed l)) (h2 : ∀ x, x ∈ b ↔ x ∈ met.filter fun x => !placed l x) : IsReach l cuts frm a b :=
 ⟨ha, hb, fun x => by rw [h1, List.mem_filter, h.done], fun x => by rw [h2, List.mem_filter, h.done]; simp⟩
end Go.Graft
namespace Go.Graft
open Go.Sym
theorem hd_tl {l : List It} (h : 0 < l.length) : l = l[0]! :: l.drop 1 := by
 cases l with
 | nil => simp at h
 | cons x r => rfl
theorem uni_right {X Y : List It} (hY : 0 < Y.length) (h : X.length = 0 ∨ (0 < X.length ∧ Op.bytesLess X[0]!.id Y[0]!.id = false ∧ Op.bytesLess Y[0]!.id X[0]!.id = true)) : uni X Y = Y[0]! :: uni X (Y.drop 1) ∧ uniC X Y = uniC X (Y.drop 1) := by
 rw [hd_tl hY]
 show uni X (Y[0]! :: Y.drop 1) = Y[0]! :: uni X (Y.drop 1) ∧ uniC X (Y[0]! :: Y.drop 1) = uniC X (Y.drop 1)
 generalize Y[0]! = y at *
 generalize Y.drop 1 = Y' at *
 rcases h with h | ⟨h1, h2, h3⟩
 ·have : X = [] := List.length_eq_zero_iff.1 h
  subst this
  rw [uni, uni, uniC, uniC]; exact ⟨rfl, rfl⟩
 ·rw [hd_tl h1]
  generalize X[0]! = x at *
  generalize X.drop 1 = X' at *
  rw [uni, uniC, h2, h3]; exact ⟨rfl, rfl⟩
theorem uni_both {X Y : List It} (hX : 0 < X.length) (hY : 0 < Y.length) (h2 : Op.bytesLess X[0]!.id Y[0]!.id = false) (h3 : Op.bytesLess Y[0]!.id X[0]!.id = false) : uni X Y = X[0]! :: uni (X.drop 1) (Y.drop 1) ∧ uniC X Y = (!decide (X[0]! = Y[0]!) || uniC (X.drop 1) (Y.drop 1)) := by
 rw [hd_tl hX, hd_tl hY]
 show uni (X[0]! :: X.drop 1) (Y[0]! :: Y.drop 1) = X[0]! :: uni (X.drop 1) (Y.drop 1) ∧ uniC (X[0]! :: X.drop 1) (Y[0]! :: Y.drop 1) = (!decide (X[0]! = Y[0]!) || uniC (X.drop 1) (Y.drop 1))
 generalize X[0]! = x at *
 generalize X.drop 1 = X' at *
 generalize Y[0]! = y at *
 generalize Y.drop 1 = Y' at *
 rw [uni, uniC, h2, h3]; exact ⟨rfl, rfl⟩
def Uni (a b : List It) (X Y F : List It) (c : Bool) : Prop := F ++ uni X Y = uni a b ∧ (c || uniC X Y) = uniC a b ∧ F.length + X.length + Y.length ≤ a.length + b.length
theorem Uni.zero (a b : List It) : Uni a b a b [] false := ⟨rfl, rfl, by simp⟩
theorem Uni.right {a b X Y F : List It} {c : Bool} (h : Uni a b X Y F c) (hY : 0 < Y.length) (h1 : X.length = 0 ∨ (0 < X.length ∧ Op.bytesLess X[0]!.id Y[0]!.id = false ∧ Op.bytesLess Y[0]!.id X[0]!.id = true)) : Uni a b X (Y.drop 1) (F ++ [Y[0]!]) c := by
 obtain ⟨g1, g2, g3⟩ := h
 obtain ⟨k1, k2⟩ := uni_right hY h1
 refine ⟨by rw [← g1, k1]; simp, by rw [← g2, k2], by simp only [List.length_append, List.length_singleton, List.length_drop]; omega⟩
theorem Uni.both {a b X Y F : List It} {c : Bool} (h : Uni a b X Y F c) (hX : 0 < X.length) (hY : 0 < Y.length) (h2 : Op.bytesLess X[0]!.id Y[0]!.id = false) (h3 : Op.bytesLess Y[0]!.id X[0]!.id = false) : Uni a b (X.drop 1) (Y.drop 1) (F ++ [X[0]!]) (c || !decide (X[0]! = Y[0]!)) := by
 obtain ⟨g1, g2, g3⟩ := h
 obtain ⟨k1, k2⟩ := uni_both hX hY h2 h3
 refine ⟨by rw [← g1, k1]; simp, by rw [← g2, k2, Bool.or_assoc], by simp only [List.length_append, List.length_singleton, List.length_drop]; omega⟩
theorem Uni.done {a b F : List It} {c : Bool} (h : Uni a b [] [] F c) : uni a b = F ∧ uniC a b = c := by
 obtain ⟨g1, g2, _⟩ := h
 rw [uni] at g1
 rw [uniC, Bool.or_false] at g2
 exact ⟨by simpa using g1.symm, g2.symm⟩
end Go.Graft
namespace Go.Graft
open Go.Sym
def goodIt (x : It) : Prop := wholeE x.kind x.body = 0 ∧ objId x.kind x.body = x.id
def ascI (l : List It) : Prop := asc (l.map It.id)
theorem right_iff (l : List It) : rightSt l = true ↔ (l.length : Int) ≤ 65536 ∧ ascI l ∧ ∀ x ∈ l, goodIt x := by
 constructor
 ·intro h
  rw [rightSt, Bool.and_eq_true, decide_eq_true_eq, List.all_eq_true] at h
  have hb : ∀ i, i < l.length → itemBad l i = false := fun i hi => by simpa using h.2 i (List.mem_range.2 hi)
  have hg : ∀ i, i < l.length → goodIt l[i]! ∧ (0 < i → bl l[i - 1]!.id l[i]!.id = true) := fun i hi => by
   have := hb i hi
   simp only [itemBad, Bool.or_eq_false_iff, Bool.and_eq_false_iff, decide_eq_false_iff_not, Bool.not_eq_false', decide_eq_true_eq] at this
   exact ⟨⟨this.1.2, this.2⟩, fun h0 => this.1.1.resolve_left (by omega)⟩
  refine ⟨h.1, ?_, fun x hx => ?_⟩
  ·have key : ∀ (d i : Nat), i + d + 1 < l.length → bl l[i]!.id l[i + d + 1]!.id = true := by
    intro d
    induction d with
    | zero => intro i hi; exact (hg (i + 1) hi).2 (by omega)
    | succ d ih =>
     intro i hi
     have h1 := ih i (by omega)
     have h2 := (hg (i + (d + 1) + 1) hi).2 (by omega)
     rw [show i + (d + 1) + 1 - 1 = i + d + 1 by omega] at h2
     exact bl_trans h1 h2
   rw [ascI, asc, List.pairwise_iff_getElem]
   intro i j hi hj hij
   rw [List.length_map] at hi hj
   rw [List.getElem_map, List.getElem_map]
   have := key (j - i - 1) i (by omega)
   rw [show i + (j - i - 1) + 1 = j by omega, getElem!_pos l i hi, getElem!_pos l j hj] at this
   exact this
  ·obtain ⟨i, hi, rfl⟩ := List.mem_iff_getElem.1 hx
   have := (hg i hi).1
   rwa [getElem!_pos l i hi] at this
 ·rintro ⟨h1, h2, h3⟩
  rw [rightSt, Bool.and_eq_true, decide_eq_true_eq, List.all_eq_true]
  refine ⟨h1, fun i hi => ?_⟩
  have hi := List.mem_range.1 hi
  have hg := h3 _ (bang_mem hi)
  have ha : decide (0 < (i : Int)) = false ∨ bl l[i - 1]!.id l[i]!.id = true := by
   cases i with
   | zero => exact .inl rfl
   | succ i =>
    right
    rw [ascI, asc, List.pairwise_iff_getElem] at h2
    have := h2 i (i + 1) (by rw [List.length_map]; omega) (by rw [List.length_map]; omega) (by omega)
    rw [List.getElem_map, List.getElem_map] at this
    rw [show i + 1 - 1 = i by omega, getElem!_pos l i (by omega), getElem!_pos l (i + 1) hi]
    exact this
  rw [Bool.not_eq_true']
  simp only [itemBad, Bool.or_eq_false_iff, Bool.and_eq_false_iff, Bool.not_eq_false', decide_eq_true_eq]
  exact ⟨⟨ha, hg.1⟩, hg.2⟩
end Go.Graft
