/- A part of the proof: GUni, GRig, Tld. -/
import Derived.Test.YtbnnmnbidkpmcaaGreatDoorPart46
import Derived.Test.YtbnnmnbidkpmcaaGreatDoorPart47
set_option linter.unusedVariables false
set_option linter.unusedSimpArgs false
namespace Go.Graft
open Go.Sym
theorem uni_nil (a : List It) : uni a [] = a := by cases a <;> rw [uni]
theorem uniC_nil (a : List It) : uniC a [] = false := by cases a <;> rw [uniC]
theorem hd_tl {l : List It} (h : 0 < l.length) : l = l[0]! :: l.drop 1 := by
 cases l with
 | nil => simp at h
 | cons x r => rfl
theorem uni_left {X Y : List It} (hX : 0 < X.length) (h : Y.length = 0 ∨ (0 < Y.length ∧ Op.bytesLess X[0]!.id Y[0]!.id = true)) : uni X Y = X[0]! :: uni (X.drop 1) Y ∧ uniC X Y = uniC (X.drop 1) Y := by
 rw [hd_tl hX]
 simp only [List.drop_succ_cons, List.drop_zero]
 show uni (X[0]! :: X.drop 1) Y = X[0]! :: uni (X.drop 1) Y ∧ uniC (X[0]! :: X.drop 1) Y = uniC (X.drop 1) Y
 generalize X[0]! = x at *
 generalize X.drop 1 = X' at *
 rcases h with h | ⟨h1, h2⟩
 ·have : Y = [] := List.length_eq_zero_iff.1 h
  subst this
  rw [uni_nil, uni_nil, uniC_nil, uniC_nil]; exact ⟨rfl, rfl⟩
 ·rw [hd_tl h1]
  have e : (Y[0]! :: Y.drop 1)[0]! = Y[0]! := rfl
  generalize Y[0]! = y at *
  generalize Y.drop 1 = Y' at *
  rw [uni, uniC, if_pos h2, if_pos h2]; exact ⟨rfl, rfl⟩
theorem uni_right {X Y : List It} (hY : 0 < Y.length) (h : X.length = 0 ∨ (0 < X.length ∧ Op.bytesLess X[0]!.id Y[0]!.id = false ∧ Op.bytesLess Y[0]!.id X[0]!.id = true)) : uni X Y = Y[0]! :: uni X (Y.drop 1) ∧ uniC X Y = uniC X (Y.drop 1) := by
 rw [hd_tl hY]
 show uni X (Y[0]! :: Y.drop 1) = Y[0]! :: uni X (Y.drop 1) ∧ uniC X (Y[0]! :: Y.drop 1) = uniC X (Y.drop 1)
 generalize Y[0]! = y at *
 generalize Y.drop 1 = Y' at *
 rcases h with h | ⟨h1, h2, h3⟩
 ·have : X = [] := List.length_eq_zero_iff.1 h
  subst this
  rw [uni, uni, uniC, uniC]; exact ⟨rfl, rfl⟩
 ·rw [hd_tl h1]
  generalize X[0]! = x at *
  generalize X.drop 1 = X' at *
  rw [uni, uniC, h2, h3]; exact ⟨rfl, rfl⟩
theorem uni_both {X Y : List It} (hX : 0 < X.length) (hY : 0 < Y.length) (h2 : Op.bytesLess X[0]!.id Y[0]!.id = false) (h3 : Op.bytesLess Y[0]!.id X[0]!.id = false) : uni X Y = X[0]! :: uni (X.drop 1) (Y.drop 1) ∧ uniC X Y = (!decide (X[0]! = Y[0]!) || uniC (X.drop 1) (Y.drop 1)) := by
 rw [hd_tl hX, hd_tl hY]
 show uni (X[0]! :: X.drop 1) (Y[0]! :: Y.drop 1) = X[0]! :: uni (X.drop 1) (Y.drop 1) ∧ uniC (X[0]! :: X.drop 1) (Y[0]! :: Y.drop 1) = (!decide (X[0]! = Y[0]!) || uniC (X.drop 1) (Y.drop 1))
 generalize X[0]! = x at *
 generalize X.drop 1 = X' at *
 generalize Y[0]! = y at *
 generalize Y.drop 1 = Y' at *
 rw [uni, uniC, h2, h3]; exact ⟨rfl, rfl⟩
theorem drop_bang {l : List It} {i : Nat} (h : i < l.length) : (l.drop i)[0]! = l[i]! := by
 rw [getElem!_pos (l.drop i) 0 (by rw [List.length_drop]; omega), getElem!_pos l i h, List.getElem_drop]; rfl
theorem drop_one (l : List It) (i : Nat) : (l.drop i).drop 1 = l.drop (i + 1) := by rw [List.drop_drop]
def Uni (a b : List It) (X Y F : List It) (c : Bool) : Prop := F ++ uni X Y = uni a b ∧ (c || uniC X Y) = uniC a b ∧ F.length + X.length + Y.length ≤ a.length + b.length
theorem Uni.zero (a b : List It) : Uni a b a b [] false := ⟨rfl, rfl, by simp⟩
theorem Uni.left {a b X Y F : List It} {c : Bool} (h : Uni a b X Y F c) (hX : 0 < X.length) (h1 : Y.length = 0 ∨ (0 < Y.length ∧ Op.bytesLess X[0]!.id Y[0]!.id = true)) : Uni a b (X.drop 1) Y (F ++ [X[0]!]) c := by
 obtain ⟨g1, g2, g3⟩ := h
 obtain ⟨k1, k2⟩ := uni_left hX h1
 refine ⟨by rw [← g1, k1]; simp, by rw [← g2, k2], by simp only [List.length_append, List.length_singleton, List.length_drop]; omega⟩
theorem Uni.right {a b X Y F : List It} {c : Bool} (h : Uni a b X Y F c) (hY : 0 < Y.length) (h1 : X.length = 0 ∨ (0 < X.length ∧ Op.bytesLess X[0]!.id Y[0]!.id = false ∧ Op.bytesLess Y[0]!.id X[0]!.id = true)) : Uni a b X (Y.drop 1) (F ++ [Y[0]!]) c := by
 obtain ⟨g1, g2, g3⟩ := h
 obtain ⟨k1, k2⟩ := uni_right hY h1
 refine ⟨by rw [← g1, k1]; simp, by rw [← g2, k2], by simp only [List.length_append, List.length_singleton, List.length_drop]; omega⟩
theorem Uni.both {a b X Y F : List It} {c : Bool} (h : Uni a b X Y F c) (hX : 0 < X.length) (hY : 0 < Y.length) (h2 : Op.bytesLess X[0]!.id Y[0]!.id = false) (h3 : Op.bytesLess Y[0]!.id X[0]!.id = false) : Uni a b (X.drop 1) (Y.drop 1) (F ++ [X[0]!]) (c || !decide (X[0]! = Y[0]!)) := by
 obtain ⟨g1, g2, g3⟩ := h
 obtain ⟨k1, k2⟩ := uni_both hX hY h2 h3
 refine ⟨by rw [← g1, k1]; simp, by rw [← g2, k2, Bool.or_assoc], by simp only [List.length_append, List.length_singleton, List.length_drop]; omega⟩
theorem Uni.done {a b F : List It} {c : Bool} (h : Uni a b [] [] F c) : uni a b = F ∧ uniC a b = c := by
 obtain ⟨g1, g2, _⟩ := h
 rw [uni] at g1
 rw [uniC, Bool.or_false] at g2
 exact ⟨by simpa using g1.symm, g2.symm⟩
theorem Uni.clash {a b X Y F : List It} (h : Uni a b X Y F false) (hX : 0 < X.length) (hY : 0 < Y.length) (h2 : Op.bytesLess X[0]!.id Y[0]!.id = false) (h3 : Op.bytesLess Y[0]!.id X[0]!.id = false) (h4 : X[0]! ≠ Y[0]!) : uniC a b = true := by
 obtain ⟨_, g2, _⟩ := h
 obtain ⟨_, k2⟩ := uni_both hX hY h2 h3
 rw [← g2, k2, decide_eq_false h4]; rfl
end Go.Graft
namespace Go.Graft
open Go.Sym
def goodIt (x : It) : Prop := wholeE x.kind x.body = 0 ∧ objId x.kind x.body = x.id
def ascI (l : List It) : Prop := asc (l.map It.id)
theorem right_iff (l : List It) : rightSt l = true ↔ (l.length : Int) ≤ 65536 ∧ ascI l ∧ ∀ x ∈ l, goodIt x := by
 constructor
 ·intro h
  rw [rightSt, Bool.and_eq_true, decide_eq_true_eq, List.all_eq_true] at h
  have hb : ∀ i, i < l.length → itemBad l i = false := fun i hi => by simpa using h.2 i (List.mem_range.2 hi)
  have hg : ∀ i, i < l.length → goodIt l[i]! ∧ (0 < i → bl l[i - 1]!.id l[i]!.id = true) := fun i hi => by
   have := hb i hi
   simp only [itemBad, Bool.or_eq_false_iff, Bool.and_eq_false_iff, decide_eq_false_iff_not, Bool.not_eq_false', decide_eq_true_eq] at this
   exact ⟨⟨this.1.2, this.2⟩, fun h0 => this.1.1.resolve_left (by omega)⟩
  refine ⟨h.1, ?_, fun x hx => ?_⟩
  ·have key : ∀ (d i : Nat), i + d + 1 < l.length → bl l[i]!.id l[i + d + 1]!.id = true := by
    intro d
    induction d with
    | zero => intro i hi; exact (hg (i + 1) hi).2 (by omega)
    | succ d ih =>
     intro i hi
     have h1 := ih i (by omega)
     have h2 := (hg (i + (d + 1) + 1) hi).2 (by omega)
     rw [show i + (d + 1) + 1 - 1 = i + d + 1 by omega] at h2
     exact bl_trans h1 h2
   rw [ascI, asc, List.pairwise_iff_getElem]
   intro i j hi hj hij
   rw [List.length_map] at hi hj
   rw [List.getElem_map, List.getElem_map]
   have := key (j - i - 1) i (by omega)
   rw [show i + (j - i - 1) + 1 = j by omega, getElem!_pos l i hi, getElem!_pos l j hj] at this
   exact this
  ·obtain ⟨i, hi, rfl⟩ := List.mem_iff_getElem.1 hx
   have := (hg i hi).1
   rwa [getElem!_pos l i hi] at this
 ·rintro ⟨h1, h2, h3⟩
  rw [rightSt, Bool.and_eq_true, decide_eq_true_eq, List.all_eq_true]
  refine ⟨h1, fun i hi => ?_⟩
  have hi := List.mem_range.1 hi
  have hg := h3 _ (bang_mem hi)
  have ha : decide (0 < (i : Int)) = false ∨ bl l[i - 1]!.id l[i]!.id = true := by
   cases i with
   | zero => exact .inl rfl
   | succ i =>
    right
    rw [ascI, asc, List.pairwise_iff_getElem] at h2
    have := h2 i (i + 1) (by rw [List.length_map]; omega) (by rw [List.length_map]; omega) (by omega)
    rw [List.getElem_map, List.getElem_map] at this
    rw [show i + 1 - 1 = i by omega, getElem!_pos l i (by omega), getElem!_pos l (i + 1) hi]
    exact this
  rw [Bool.not_eq_true']
  simp only [itemBad, Bool.or_eq_false_iff, Bool.and_eq_false_iff, Bool.not_eq_false', decide_eq_true_eq]
  exact ⟨⟨ha, hg.1⟩, hg.2⟩
theorem hvAt_congr {p q : Nat → Bool} : ∀ (d lo hi : Nat), hi - lo = d → (∀ i, i < hi → p i = q i) → hvAt p lo hi = hvAt q lo hi := by
 intro d
 induction d using Nat.strongRecOn with
 | _ d ih =>
  intro lo hi hd h
  by_cases hl : lo < hi
  ·rw [hvAt_lt _ _ _ hl, hvAt_lt _ _ _ hl, h _ (by omega)]
   split
   ·exact ih _ (by omega) _ _ rfl h
   ·exact ih _ (by omega) _ _ rfl fun i hi' => h i (by omega)
  ·rw [hvAt_ge _ _ _ hl, hvAt_ge _ _ _ hl]
theorem map_id_bang (l : List It) {i : Nat} (h : i < l.length) : (l.map It.id)[i]! = l[i]!.id := by
 rw [getElem!_pos _ i (by rw [List.length_map]; exact h), getElem!_pos l i h, List.getElem_map]
theorem place_spot (l : List It) (x : Str) : place l x = spot (l.map It.id) x := by
 rw [place, spot, List.length_map, halve_eq, halve_eq]
 exact hvAt_congr _ _ _ rfl fun i hi => by rw [map_id_bang l hi]
theorem placed_holds (l : List It) (x : Str) : placed l x = holdsP (l.map It.id) x := by
 rw [placed, holdsP, ← place_spot, List.length_map]
 by_cases h : place l x < l.length
 ·rw [map_id_bang l h, decide_eq_true h, decide_eq_true (by omega : ((place l x : Nat) : Int) < (l.length : Int))]; rfl
 ·rw [decide_eq_false h, decide_eq_false (by omega : ¬ ((place l x : Nat) : Int) < (l.length : Int))]; rfl
theorem placed_iff {l : List It} (h : ascI l) (x : Str) : placed l x = true ↔ ∃ y ∈ l, y.id = x := by
 rw [placed_holds, holds_iff h, List.mem_map]
theorem asc_eq {l : List It} (h : ascI l) {x y : It} (hx : x ∈ l) (hy : y ∈ l) (he : x.id = y.id) : x = y := by
 obtain ⟨i, hi, rfl⟩ := List.mem_iff_getElem.1 hx
 obtain ⟨j, hj, rfl⟩ := List.mem_iff_getElem.1 hy
 rw [ascI, asc, List.pairwise_iff_getElem] at h
 rcases Nat.lt_trichotomy i j with hij | rfl | hij
 ·have := h i j (by rw [List.length_map]; exact hi) (by rw [List.length_map]; exact hj) hij
  rw [List.getElem_map, List.getElem_map, he, bl_irr] at this; simp at this
 ·rfl
 ·have := h j i (by rw [List.length_map]; exact hj) (by rw [List.length_map]; exact hi) hij
  rw [List.getElem_map, List.getElem_map, he, bl_irr] at this; simp at this
theorem place_of {l : List It} (h : ascI l) {x : It} (hx : x ∈ l) : placed l x.id = true ∧ l[place l x.id]! = x := by
 have hp := (placed_iff h x.id).2 ⟨x, hx, rfl⟩
 obtain ⟨h1, h2⟩ := placed_lt hp
 exact ⟨hp, asc_eq h (bang_mem h1) hx h2⟩
theorem ascI_cons {x : It} {l : List It} : ascI (x :: l) ↔ (∀ y ∈ l, bl x.id y.id = true) ∧ ascI l := by
 rw [ascI, asc, List.map_cons, List.pairwise_cons]
 constructor
 ·rintro ⟨h1, h2⟩
  exact ⟨fun y hy => h1 _ (List.mem_map.2 ⟨y, hy, rfl⟩), h2⟩
 ·rintro ⟨h1, h2⟩
  exact ⟨fun z hz => by obtain ⟨y, hy, rfl⟩ := List.mem_map.1 hz; exact h1 y hy, h2⟩
theorem bl_same {a b : Str} (h1 : bl a b = false) (h2 : bl b a = false) : a = b := by
 rcases bl_tri a b with h | h | h
 ·rw [h1] at h; simp at h
 ·rw [h2] at h; simp at h
 ·exact h
theorem uni_ind {p : List It → List It → Prop} (h0 : ∀ b, p [] b) (h1 : ∀ x a, p (x :: a) []) (h2 : ∀ x a y b, p a (y :: b) → p (x :: a) b → p a b → p (x :: a) (y :: b)) : ∀ (n : Nat) (a b : List It), a.length + b.length = n → p a b := by
 intro n
 induction n using Nat.strongRecOn with
 | _ n ih =>
  intro a b hn
  cases a with
  | nil => exact h0 b
  | cons x a =>
   cases b with
   | nil => exact h1 x a
   | cons y b =>
    simp only [List.length_cons] at hn
    exact h2 x a y b (ih (a.length + (y :: b).length) (by simp only [List.length_cons]; omega) a (y :: b) rfl) (ih ((x :: a).length + b.length) (by simp only [List.length_cons]; omega) (x :: a) b rfl) (ih (a.length + b.length) (by omega) a b rfl)
theorem uniC_comm (a b : List It) : uniC a b = uniC b a := by
 refine uni_ind (p := fun a b => uniC a b = uniC b a) (fun b => ?_) (fun x a => ?_) (fun x a y b i1 i2 i3 => ?_) _ a b rfl
 ·rw [uniC_nil, uniC]
 ·rw [uniC, uniC]
 ·rw [uniC, uniC]
  by_cases g1 : Op.bytesLess x.id y.id = true
  ·rw [if_pos g1, if_neg (by rw [show Op.bytesLess y.id x.id = false from bl_asym g1]; simp), if_pos g1, i1]
  ·rw [if_neg g1]
   by_cases g2 : Op.bytesLess y.id x.id = true
   ·rw [if_pos g2, if_pos g2, i2]
   ·rw [if_neg g2, if_neg g2, if_neg g1, i3, show decide (x = y) = decide (y = x) from decide_eq_decide.2 eq_comm]
theorem uni_comm (a b : List It) : uniC a b = false → uni a b = uni b a := by
 refine uni_ind (p := fun a b => uniC a b = false → uni a b = uni b a) (fun b _ => ?_) (fun x a _ => ?_) (fun x a y b i1 i2 i3 => ?_) _ a b rfl
 ·rw [uni_nil, uni]
 ·rw [uni, uni]
 ·rw [uniC, uni, uni]
  by_cases g1 : Op.bytesLess x.id y.id = true
  ·rw [if_pos g1, if_pos g1, if_neg (by rw [show Op.bytesLess y.id x.id = false from bl_asym g1]; simp), if_pos g1]
   exact fun h => by rw [i1 h]
  ·rw [if_neg g1, if_neg g1]
   by_cases g2 : Op.bytesLess y.id x.id = true
   ·rw [if_pos g2, if_pos g2, if_pos g2]
    exact fun h => by rw [i2 h]
   ·rw [if_neg g2, if_neg g2, if_neg g2, if_neg g1, Bool.or_eq_false_iff, Bool.not_eq_false', decide_eq_true_eq]
    exact fun h => by rw [i3 h.2, h.1]
theorem unionE_comm (a b : List It) : unionE a b = unionE b a := by
 rw [unionE, unionE, uniC_comm a b]
 by_cases h : uniC b a = true
 ·rw [if_pos h, if_pos h]
 ·have h : uniC b a = false := by simpa using h
  rw [uni_comm a b (by rw [uniC_comm]; exact h)]
theorem unionL_comm (a b : List It) : unionL a b = unionL b a := by
 rw [unionL, unionL, unionE_comm a b]
 split
 ·rfl
 ·rename_i h
  have hc : uniC b a = false := by
   cases hc : uniC b a with
   | false => rfl
   | true => rw [unionE, hc] at h; simp at h
  exact uni_comm a b (by rw [uniC_comm]; exact hc)
theorem uni_mem (a b : List It) (z : It) : z ∈ uni a b → z ∈ a ∨ z ∈ b := by
 refine uni_ind (p := fun a b => z ∈ uni a b → z ∈ a ∨ z ∈ b) (fun b h => ?_) (fun x a h => ?_) (fun x a y b i1 i2 i3 h => ?_) _ a b rfl
 ·rw [uni] at h; exact .inr h
 ·rw [uni] at h; exact .inl h
 ·rw [uni] at h
  split at h
  ·rcases List.mem_cons.1 h with rfl | h
   ·exact .inl List.mem_cons_self
   ·exact (i1 h).imp (List.mem_cons_of_mem _) id
  ·split at h
   ·rcases List.mem_cons.1 h with rfl | h
    ·exact .inr List.mem_cons_self
    ·exact (i2 h).imp id (List.mem_cons_of_mem _)
   ·rcases List.mem_cons.1 h with rfl | h
    ·exact .inl List.mem_cons_self
    ·exact (i3 h).imp (List.mem_cons_of_mem _) (List.mem_cons_of_mem _)
theorem uni_asc (a b : List It) : ascI a → ascI b → ascI (uni a b) := by
 refine uni_ind (p := fun a b => ascI a → ascI b → ascI (uni a b)) (fun b _ h => ?_) (fun x a h _ => ?_) (fun x a y b i1 i2 i3 ha hb => ?_) _ a b rfl
 ·rw [uni]; exact h
 ·rw [uni]; exact h
 ·obtain ⟨a1, a2⟩ := ascI_cons.1 ha
  obtain ⟨b1, b2⟩ := ascI_cons.1 hb
  rw [uni]
  split
  ·rename_i g1
   refine ascI_cons.2 ⟨fun z hz => ?_, i1 a2 hb⟩
   rcases uni_mem _ _ z hz with h | h
   ·exact a1 z h
   ·rcases List.mem_cons.1 h with rfl | h
    ·exact g1
    ·exact bl_trans g1 (b1 z h)
  ·rename_i g1
   split
   ·rename_i g2
    refine ascI_cons.2 ⟨fun z hz => ?_, i2 ha b2⟩
    rcases uni_mem _ _ z hz with h | h
    ·rcases List.mem_cons.1 h with rfl | h
     ·exact g2
     ·exact bl_trans g2 (a1 z h)
    ·exact b1 z h
   ·rename_i g2
    have he : x.id = y.id := bl_same (by simpa using g1) (by simpa using g2)
    refine ascI_cons.2 ⟨fun z hz => ?_, i3 a2 b2⟩
    rcases uni_mem _ _ z hz with h | h
    ·exact a1 z h
    ·rw [he]; exact b1 z h
theorem uni_less (q : Str → Bool) (a b : List It) : (∀ y ∈ b, q y.id = false) → (uni a b).filter (fun x => q x.id) = a.filter fun x => q x.id := by
 refine uni_ind (p := fun a b => (∀ y ∈ b, q y.id = false) → (uni a b).filter (fun x => q x.id) = a.filter fun x => q x.id) (fun b h => ?_) (fun x a _ => ?_) (fun x a y b i1 i2 i3 h => ?_) _ a b rfl
 ·rw [uni, List.filter_nil, List.filter_eq_nil_iff]
  exact fun z hz => by rw [h z hz]; simp
 ·rw [uni]
 ·rw [uni]
  split
  ·rw [List.filter_cons, List.filter_cons, i1 h]
  ·rename_i g1
   split
   ·rw [List.filter_cons_of_neg (by rw [h y List.mem_cons_self]; simp), i2 fun z hz => h z (List.mem_cons_of_mem _ hz)]
   ·rename_i g2
    have he : x.id = y.id := bl_same (by simpa using g1) (by simpa using g2)
    rw [List.filter_cons, List.filter_cons, i3 fun z hz => h z (List.mem_cons_of_mem _ hz)]
theorem union_ok {a b : List It} (ha : rightSt a = true) (hb : rightSt b = true) (h : unionE a b = 0) : unionL a b = uni a b ∧ rightSt (unionL a b) = true ∧ ((unionL a b).filter fun x => !placed b x.id) = a.filter fun x => !placed b x.id := by
 obtain ⟨a1, a2, a3⟩ := (right_iff a).1 ha
 obtain ⟨b1, b2, b3⟩ := (right_iff b).1 hb
 have hL : unionL a b = uni a b := by rw [unionL, if_neg (by simp [h])]
 rw [hL]
 refine ⟨rfl, (right_iff _).2 ⟨?_, uni_asc a b a2 b2, fun x hx => (uni_mem a b x hx).elim (a3 x) (b3 x)⟩, uni_less (fun s => !placed b s) a b fun y hy => by rw [(place_of b2 hy).1]; rfl⟩
 rw [unionE] at h
 split at h
 ·omega
 ·split at h <;> omega
theorem put_right {l : List It} {k : Int} {b : Str} (hl : rightSt l = true) (h : putE l k b = 0) : rightSt (putL l k b) = true ∧ (∀ x ∈ l, x ∈ putL l k b) ∧ ⟨objId k b, k, b⟩ ∈ putL l k b ∧ (∀ x ∈ putL l k b, x = ⟨objId k b, k, b⟩ ∨ x ∈ l) ∧ (putL l k b).length ≤ l.length + 1 ∧ wholeE k b = 0 := by
 obtain ⟨l1, l2, l3⟩ := (right_iff l).1 hl
 have hw : wholeE k b = 0 := by
  rw [putE] at h
  split at h
  ·exact h
  ·rename_i hw; simpa using hw
 have hc : clashP l k b = false := by
  cases hc : clashP l k b with
  | false => rfl
  | true => rw [putE, if_neg (by simp [hw]), hc, if_pos rfl] at h; simp at h
 have hg : goodIt ⟨objId k b, k, b⟩ := ⟨hw, rfl⟩
 rw [putL, if_neg (by simp [h])]
 by_cases hp : placed l (objId k b) = true
 ·rw [if_pos hp]
  obtain ⟨p1, p2⟩ := placed_lt hp
  rw [clashP, hp, Bool.true_and, Bool.not_eq_false', Bool.and_eq_true, decide_eq_true_eq, decide_eq_true_eq] at hc
  have he : l[place l (objId k b)]! = ⟨objId k b, k, b⟩ := by
   generalize l[place l (objId k b)]! = y at *
   obtain ⟨i, k', b'⟩ := y
   dsimp only at *
   rw [p2, hc.1, hc.2]
  exact ⟨hl, fun x hx => hx, he ▸ bang_mem p1, fun x hx => .inr hx, by omega, hw⟩
 ·rw [if_neg hp]
  have hp : placed l (objId k b) = false := by simpa using hp
  have hsz : (l.length : Int) < 65536 := by
   rw [putE, if_neg (by simp [hw]), if_neg (by simp [hc]), hp] at h
   by_cases hs : (65536 : Int) ≤ l.length
   ·rw [decide_eq_true hs] at h; simp at h
   ·omega
  have hns : (l.take (place l (objId k b)) ++ (⟨objId k b, k, b⟩ :: l.drop (place l (objId k b)))).map It.id = insS (l.map It.id) (objId k b) := by
   rw [insS, ← placed_holds, hp, if_neg (by simp), ← place_spot, List.map_append, List.map_cons, List.map_take, List.map_drop]; simp
  have hlen : (l.take (place l (objId k b)) ++ (⟨objId k b, k, b⟩ :: l.drop (place l (objId k b)))).length = l.length + 1 := by
   have := place_le l (objId k b)
   simp only [List.length_append, List.length_cons, List.length_take, List.length_drop]; omega
  have hmem : ∀ x, x ∈ l.take (place l (objId k b)) ++ (⟨objId k b, k, b⟩ :: l.drop (place l (objId k b))) ↔ x = ⟨objId k b, k, b⟩ ∨ x ∈ l := fun x => by
   conv => rhs; rw [← List.take_append_drop (place l (objId k b)) l]
   simp only [List.mem_append, List.mem_cons]
   constructor
   ·rintro (h | h | h)
    ·exact .inr (.inl h)
    ·exact .inl h
    ·exact .inr (.inr h)
   ·rintro (h | h | h)
    ·exact .inr (.inl h)
    ·exact .inl h
    ·exact .inr (.inr h)
  refine ⟨(right_iff _).2 ⟨by rw [hlen]; omega, ?_, fun x hx => ?_⟩, fun x hx => (hmem x).2 (.inr hx), (hmem _).2 (.inl rfl), fun x hx => (hmem x).1 hx, by omega, hw⟩
  ·rw [ascI, hns]; exact insS_asc _ l2
  ·rcases (hmem x).1 hx with rfl | h
   ·exact hg
   ·exact l3 x h
end Go.Graft
namespace Go.Proofs.Tryz
open Go Go.Sym Go.Graft
set_option maxRecDepth 20000
theorem nodup_len {α : Type} [BEq α] [LawfulBEq α] : ∀ {a b : List α}, a.Nodup → (∀ x ∈ a, x ∈ b) → a.length ≤ b.length
 | [], _, _, _ => Nat.zero_le _
 | x :: a, b, h, hs => by
  rw [List.nodup_cons] at h
  have hx := hs x List.mem_cons_self
  have ih := nodup_len (a := a) (b := b.erase x) h.2 fun y hy => (List.mem_erase_of_ne (fun (e : y = x) => h.1 (e ▸ hy))).2 (hs y (List.mem_cons_of_mem _ hy))
  have h1 := List.length_erase_of_mem hx
  have h2 := List.length_pos_of_mem hx
  rw [List.length_cons]; omega
theorem flat_len (l : List It) (cuts : List Str) : ∀ r : List It, (r.flatMap fun it => nmAt l cuts it.id).length ≤ r.length * 1048577
 | [] => by simp
 | x :: r => by
  have := flat_len l cuts r
  have := nmAt_len l cuts x.id
  rw [List.flatMap_cons, List.length_append, List.length_cons, Nat.succ_mul]; omega
theorem rch_mem {l : List It} {cuts frm : List Str} {x : Str} (hx : Rch l cuts frm x) : x ∈ frm ++ l.flatMap fun it => nmAt l cuts it.id := by
 cases hx with
 | start h => simp [h]
 | step h1 h2 h3 =>
  obtain ⟨it, hi, rfl⟩ := placed_mem h2
  rw [List.mem_append, List.mem_flatMap]
  exact .inr ⟨it, hi, h3⟩
theorem reach_len {l : List It} {cuts frm H K : List Str} (h : IsReach l cuts frm H K) : H.length ≤ l.length ∧ K.length ≤ frm.length + l.length * 1048577 := by
 constructor
 ·have := nodup_len (b := l.map It.id) (asc_nodup h.a1) fun x hx => by
   obtain ⟨it, hi, rfl⟩ := placed_mem ((h.m1 x).1 hx).2
   exact List.mem_map.2 ⟨it, hi, rfl⟩
  rwa [List.length_map] at this
 ·have h1 := nodup_len (asc_nodup h.a2) fun x hx => rch_mem ((h.m2 x).1 hx).1
  have h2 := flat_len l cuts l
  rw [List.length_append] at h1; omega
theorem rch_mono {l : List It} {cuts frm frm' : List Str} (hf : ∀ x ∈ frm, x ∈ frm') {x : Str} (h : Rch l cuts frm x) : Rch l cuts frm' x := by
 induction h with
 | start h => exact .start (hf _ h)
 | step _ h2 h3 ih => exact .step ih h2 h3
theorem holdsS_eq {S : List Str} (x : Str) : holdsS S x = holdsP S x := by
 rw [holdsP, holdsS]
 have : decide (spot S x < S.length) = decide (((spot S x : Nat) : Int) < (S.length : Int)) := decide_eq_decide.2 (by omega)
 rw [this]; rfl
abbrev lstV (x : Bool × List Str) : PV := .sl x.1 1 (x.2.map fun s => sV s)
set_option maxHeartbeats 4000000 in
theorem cStoreReaches (nl nc ni : Bool) (l : List It) (cuts : List Str) (ids : List (Bool × List Str)) (hnl : ∀ x ∈ ids, x.1 = true → x.2 = []) : Ctr prog 6 [stPV nl l, .sl nc 1 (cuts.map fun x => sV x), .sl ni 1 (ids.map lstV)] [] (bV true) [] [] := by
 have c := cLives
 have c1 := cSmall nl l
 have hsm := fun h : smallP l = true => small_len h
 generalize smallP l = sm at *
 refine Ctr.enter tblOk func6 rfl (by decide) rfl (nt := 162) rfl rfl rfl rfl ?_
 refine Trip.sr tblOk ?_
 refine Trip.seq (Trip.sr tblOk ?_)
 apply Trip.cond (.tmp rfl)
 ·intro h
  refine Trip.sR tblOk (by repeat' (first | exact rfl | (apply Rule.sem; intro hγ; with_reducible apply F_call0 (x := .func 8) (B := []) hγ (hspec := c)) | ((with_reducible refine Side.mk ?_); exact .inl rfl) | constructor)) ?_
  refine Trip.ret (rt1 [] (hc := by repeat' (exact cvB (by simp only [List.length_map]))))
 intro h
 have h : (!decide ((((ids.map lstV).length : Nat) : Int) = 2)) = false := h
 rw [List.length_map, Bool.not_eq_false', decide_eq_true_eq] at h
 obtain ⟨⟨nf, fr⟩, ⟨nm, mo⟩, rfl⟩ : ∃ x y, ids = [x, y] := by
  match ids, h with
  | [x, y], _ => exact ⟨x, y, rfl⟩
  | [], h => simp at h
  | [x], h => simp at h
  | x :: y :: z :: r, h => simp at h; omega
 have hnf : nf = true → fr = [] := hnl (nf, fr) (by simp)
 refine Trip.skip ?_
 refine Trip.dk ⟨[(1, .sl nc 1 (cuts.map fun x => sV x)), (3, .ref 3 0), (7, .sl nf 1 (fr.map fun x => sV x)), (8, .sl nm 1 (mo.map fun x => sV x))], [(3, .box [.sl nl 3 (l.map It.pv)])]⟩ tblOk mixed (by repeat' (first | exact rfl | ((with_reducible refine Side.mk ?_); (simp only [ln]; first | done | omega)) | constructor)) Weak.kp ?_
 refine Trip.seq (Trip.sR tblOk (by repeat' (first | exact rfl | (apply Rule.sem; intro hγ; with_reducible apply F_call0 (x := .func 11) (B := []) hγ (hspec := c1)) | ((with_reducible refine Side.mk ?_); first | exact .inl rfl | exact fun h => h | exact fun _ h => congrArg Bool.not h) | constructor)) ?_)
 apply Trip.cond (.tmp rfl)
 ·intro h
  refine Trip.sR tblOk (by repeat' (first | exact rfl | (apply Rule.sem; intro hγ; with_reducible apply F_call0 (x := .func 8) (B := []) hγ (hspec := c)) | ((with_reducible refine Side.mk ?_); exact .inl rfl) | constructor)) ?_
  refine Trip.ret (rt1 [] (hc := by repeat' (exact cvB (by simp only [List.length_map]))))
 intro h
 have h : (!sm || decide ((20 : Int) < (((fr.map fun x => sV x).length : Nat) : Int)) || decide ((20 : Int) < (((mo.map fun x => sV x).length : Nat) : Int)) || decide ((20 : Int) < (((cuts.map fun x => sV x).length : Nat) : Int))) = false := h
 simp only [List.length_map, Bool.or_eq_false_iff, Bool.not_eq_false', decide_eq_false_iff_not] at h
 obtain ⟨⟨⟨h1, h2⟩, h3⟩, h4⟩ := h
 obtain ⟨hl, hb, _⟩ := hsm h1
 have hfl : fr.length ≤ 20 := by omega
 have hml : mo.length ≤ 20 := by omega
 have hcl : cuts.length ≤ 20 := by omega
 have hb2 : ∀ it ∈ l, it.body.length ≤ 100000000 := fun it hi => by have := hb it hi; omega
 clear hsm c1 h1 h2 h3 h4 hb
 obtain ⟨H, K, hR⟩ := reach_ex l [] fr
 obtain ⟨H2, K2, hR2⟩ := reach_ex l cuts fr
 obtain ⟨H3, K3, hR3⟩ := reach_ex l [] (fr ++ mo)
 obtain ⟨r1, r2⟩ := reach_len hR
 obtain ⟨r3, r4⟩ := reach_len hR2
 obtain ⟨r5, r6⟩ := reach_len hR3
 have c2 := cReach nl nf l fr (by omega) (by omega) hnf H K hR
 have c3 := cReach17 nl nf l fr (by omega) (by omega) H K hR
 have c4 := cMissing nl nf l fr (by omega) (by omega) hnf H K hR
 have c5 := cMissing17 nl nf l fr (by omega) (by omega) H K hR
 have c6 := cWholeP nl nc nf l cuts fr (by omega) (by omega) (by omega) hnf hb2 H2 K2 hR2 (by omega)
 have c7 := cWhole17S nl nc nf l cuts fr (by omega) (by omega) (by omega) hb2 H2 K2 hR2 (by omega)
 have c8 := cReach nl false l (fr ++ mo) (by omega) (by simp only [List.length_append]; omega) (fun h => by simp at h) H3 K3 hR3
 generalize wholeP l cuts H2 K2 = wr at *
 have hRl : (if K = [] then H else []).length ≤ 80 := by
  split
  ·omega
  ·simp
 have d1 := cSameTexts (if K = [] then H else []).isEmpty (if K = [] then H else []).isEmpty (if K = [] then H else []) (if K = [] then H else []) (by omega) (by omega)
 have d2 := cSameTexts K.isEmpty K.isEmpty K K (by omega) (by omega)
 generalize hRd : (if K = [] then H else []) = R at *
 generalize hEd : (if K = [] then (0 : Int) else 171) = E at *
 refine Trip.skip (Trip.sR tblOk (by repeat' (first | exact rfl | (apply Rule.sem; intro hγ; with_reducible apply F_call0 (x := .func 25) (B := []) hγ (hspec := c2)) | ((with_reducible refine Side.mk ?_); exact .inl rfl) | constructor)) ?_)
 refine Trip.sR tblOk (by repeat' (first | exact rfl | (apply Rule.sem; intro hγ; with_reducible apply F_call0 (x := .func 26) (B := []) hγ (hspec := c3)) | ((with_reducible refine Side.mk ?_); exact .inl rfl) | constructor)) ?_
 refine Trip.seq (Trip.sD tblOk mixed (by repeat' (first | exact rfl | (apply Rule.sem; intro hγ; with_reducible apply F_call0 (x := .func 8) (B := []) hγ (hspec := c)) | (apply Rule.sem; intro hγ; with_reducible apply F_call0 (dst := some 67) (x := .func 18) (B := []) hγ (hspec := d1)) | (apply Rule.sem; intro hγ; with_reducible apply F_call0 (x := .func 27) (B := []) hγ (hspec := c4)) | (apply Rule.sem; intro hγ; with_reducible apply F_call0 (x := .func 28) (B := []) hγ (hspec := c5)) | (apply Rule.sem; intro hγ; with_reducible apply F_call0 (dst := some 82) (x := .func 18) (B := []) hγ (hspec := d2)) | (apply Rule.sem; intro hγ; with_reducible apply F_call0 (x := .func 29) (B := []) hγ (hspec := c6)) | (apply Rule.sem; intro hγ; with_reducible apply F_call0 (x := .func 30) (B := []) hγ (hspec := c7)) | ((with_reducible refine Side.mk ?_); first | exact .inl rfl | exact fun h => h | exact fun _ h => congrArg Bool.not h) | constructor)) ?_)
 apply Trip.cond (.tmp rfl)
 ·intro h
  exfalso
  simp at h
 intro h
 clear h
 refine Trip.skip (Trip.seq (Trip.sr tblOk ?_))
 apply Trip.cond (.tmp rfl)
 ·intro h
  have hK : ¬ K = [] := fun hK => by
   rw [if_pos hK] at hEd
   subst hEd
   simp at h
  have hK : 0 < K.length := List.length_pos_iff.2 hK
  refine Trip.sR tblOk (by repeat' (first | exact rfl | (apply Rule.sem; intro hγ; with_reducible apply F_call0 (x := .func 27) (B := []) hγ (hspec := c4)) | ((with_reducible refine Side.mk ?_); exact .inl rfl) | constructor)) ?_
  refine Trip.ret (rt1 [] (hc := by repeat' (exact cvB (by simp only [List.length_map, decide_eq_true_eq]; omega))))
 intro h
 have hK : K = [] := by
  refine Classical.byContradiction fun hK => ?_
  rw [if_neg hK] at hEd
  subst hEd
  simp at h
 rw [if_pos hK] at hRd
 subst hRd
 have hHp : ∀ y, Rch l [] fr y → y ∈ H := fun y hy => by
  cases hp : placed l y with
  | true => exact (hR.m1 y).2 ⟨hy, hp⟩
  | false =>
   have := (hR.m2 y).2 ⟨hy, hp⟩
   rw [hK] at this; simp at this
 clear c2 c3 c4 c5 c6 c7 d1 d2 h hEd
 refine Trip.skip (Trip.seq (Trip.sr tblOk ?_))
 refine Trip.block ?_
 refine Trip.loop (fun (i : Nat) => ⟨[(3, .ref 3 0), (7, .sl nf 1 (fr.map fun x => sV x)), (8, .sl nm 1 (mo.map fun x => sV x)), (9, .sl H.isEmpty 1 (H.map fun x => sV x)), (13, iV i)], [(3, .box [.sl nl 3 (l.map It.pv)])]⟩) (fun (i : Nat) => i ≤ H.length) (fun (i : Nat) => H.length - i) (0) (by first | omega | (simp; done)) Weak.kp ?_
 intro i hi
 refine Trip.seq (Trip.sr tblOk ?_)
 apply Trip.cond (.tmp rfl)
 ·intro h2
  have h2 : i < H.length := by simp at h2; omega
  obtain ⟨hx1, hx2⟩ := (hR.m1 H[i]!).1 (bang_mem h2)
  have c9 := cGet17 nl l H[i]! (by omega)
  rw [hx2] at c9
  simp only [if_true] at c9
  have c10 := cNames17 l[place l H[i]!]!.kind l[place l H[i]!]!.body false
  have hN : nmsOf l[place l H[i]!]!.kind l[place l H[i]!]!.body false = nmAt l [] H[i]! := by rw [nmAt]; rfl
  rw [hN] at c10
  have hNl := nmAt_len l [] H[i]!
  have hHN : ∀ y ∈ nmAt l [] H[i]!, y ∈ H := fun y hy => hHp y (.step hx1 hx2 hy)
  generalize nmAt l [] H[i]! = N at *
  generalize l[place l H[i]!]!.kind = kk at *
  generalize l[place l H[i]!]!.body = bb at *
  generalize (linksOf kk bb).isEmpty = ne at *
  refine Trip.skip (Trip.seq (Trip.block (Trip.sD tblOk mixed (by repeat' (first | exact rfl | (apply Rule.sem; intro hγ; with_reducible apply F_call0 (x := .func 21) (B := []) hγ (hspec := c9)) | exact idx_map _ _ _ (by show _ < _; first | omega | (simp only [List.length_map] at *; omega)) | ((with_reducible refine Side.mk ?_); first | exact .inl rfl | (simp only [ln]; first | done | omega)) | constructor)) ?_)))
  refine Trip.sR tblOk (by repeat' (first | exact rfl | (apply Rule.sem; intro hγ; with_reducible apply F_call0 (x := .func 31) (B := []) hγ (hspec := c10)) | ((with_reducible refine Side.mk ?_); exact .inl rfl) | constructor)) ?_
  refine Trip.seq (Trip.sr tblOk ?_)
  refine Trip.block ?_
  refine Trip.loop (fun (k : Nat) => ⟨[(3, .ref 3 0), (7, .sl nf 1 (fr.map fun x => sV x)), (8, .sl nm 1 (mo.map fun x => sV x)), (9, .sl H.isEmpty 1 (H.map fun x => sV x)), (13, iV i), (15, iV 0), (16, .sl ne 1 (N.map fun x => sV x)), (17, iV k)], [(3, .box [.sl nl 3 (l.map It.pv)])]⟩) (fun (k : Nat) => k ≤ N.length) (fun (k : Nat) => N.length - k) (0) (by first | omega | (simp; done)) Weak.kp ?_
  intro k hk
  refine Trip.seq (Trip.sr tblOk ?_)
  apply Trip.cond (.tmp rfl)
  ·intro h3
   have h3 : k < N.length := by simp at h3; omega
   have c11 := cHolds H.isEmpty H N[k]! (by omega)
   rw [holdsS_eq, (holds_iff hR.a1 _).2 (hHN _ (bang_mem h3))] at c11
   refine Trip.skip (Trip.seq (Trip.block (Trip.sR tblOk (by repeat' (first | exact rfl | (apply Rule.sem; intro hγ; with_reducible apply F_call0 (x := .func 32) (B := []) hγ (hspec := c11)) | exact idx_map _ _ _ (by show _ < _; first | omega | (simp only [List.length_map] at *; omega)) | ((with_reducible refine Side.mk ?_); first | exact .inl rfl | (simp only [ln]; first | done | omega)) | constructor)) ?_)))
   apply Trip.cond (.tmp rfl)
   ·intro h4
    simp at h4
   intro h4
   refine Trip.skip (Trip.R tblOk (by repeat' (first | exact rfl | ((with_reducible refine Side.mk ?_); omega) | constructor)) ?_)
   exact ⟨k + 1, by first | omega | (dsimp only at *; omega), by first | omega | (dsimp only at *; omega), Weak.kp⟩
  intro h3
  refine Trip.exit (Trip.sr tblOk ?_)
  apply Trip.cond (.tmp rfl)
  ·intro h4
   simp at h4
  intro h4
  refine Trip.skip (Trip.R tblOk (by repeat' (first | exact rfl | ((with_reducible refine Side.mk ?_); omega) | constructor)) ?_)
  exact ⟨i + 1, by first | omega | (dsimp only at *; omega), by first | omega | (dsimp only at *; omega), Weak.kp⟩
 intro h2
 have hH3 : K3 = [] → ∀ y ∈ H, y ∈ H3 := fun hK3 y hy => by
  obtain ⟨g1, g2⟩ := (hR.m1 y).1 hy
  exact (hR3.m1 y).2 ⟨rch_mono (fun x hx => List.mem_append_left _ hx) g1, g2⟩
 have hR3l : (if K3 = [] then H3 else []).length ≤ 80 := by
  split
  ·omega
  ·simp
 have hE3 : (if K3 = [] then (0 : Int) else 171) = 0 → (if K3 = [] then H3 else []) = H3 ∧ K3 = [] := fun h => by
  by_cases hk : K3 = []
  ·rw [if_pos hk]; exact ⟨rfl, hk⟩
  ·rw [if_neg hk] at h; simp at h
 generalize (if K3 = [] then H3 else []) = R3 at *
 generalize (if K3 = [] then (0 : Int) else 171) = E3 at *
 rw [List.map_append] at c8
 refine Trip.exit ?_
 refine Trip.dk ⟨[(9, .sl H.isEmpty 1 (H.map fun x => sV x)), (18, .sl R3.isEmpty 1 (R3.map fun x => sV x)), (19, iV E3)], []⟩ tblOk mixed (by repeat' (first | exact rfl | (apply Rule.sem; intro hγ; with_reducible apply F_callG (x := .func 25) (σ := []) (G := [137]) (news := []) hγ (hspec := c8)) | (with_reducible apply cvView (B := [137])) | exact cellsOk_map _ (fun _ => rfl) _ | exact plainL_append (plainL_append rfl (plainL_map _ (fun _ => rfl) _)) (plainL_map _ (fun _ => rfl) _) | (show List.take _ (List.drop 0 _) = _; rw [List.drop_zero, List.take_length]; rfl) | ((with_reducible refine Side.mk ?_); (simp only [ln]; first | done | omega)) | constructor)) Weak.kp ?_
 refine Trip.seq (Trip.sr tblOk ?_)
 refine Trip.block ?_
 refine Trip.loop (fun (i : Nat) => ⟨[(9, .sl H.isEmpty 1 (H.map fun x => sV x)), (18, .sl R3.isEmpty 1 (R3.map fun x => sV x)), (19, iV E3), (20, iV i)], []⟩) (fun (i : Nat) => i ≤ H.length) (fun (i : Nat) => H.length - i) (0) (by first | omega | (simp; done)) Weak.kp ?_
 intro i hi
 refine Trip.seq (Trip.sR tblOk (by repeat' (first | exact rfl | ((with_reducible refine Side.mk ?_); first | exact fun h => h | exact fun _ h => h) | constructor)) ?_)
 apply Trip.cond (.tmp rfl)
 ·intro h3
  have h3 : (decide (E3 = 0) && decide ((i : Int) < (((H.map fun x => sV x).length : Nat) : Int))) = true := h3
  rw [List.length_map, Bool.and_eq_true, decide_eq_true_eq, decide_eq_true_eq] at h3
  obtain ⟨h3, h4⟩ := h3
  have h4 : i < H.length := by omega
  obtain ⟨g1, g2⟩ := hE3 h3
  subst g1
  have c11 := cHolds R3.isEmpty R3 H[i]! (by omega)
  rw [holdsS_eq, (holds_iff hR3.a1 _).2 (hH3 g2 _ (bang_mem h4))] at c11
  refine Trip.skip (Trip.seq (Trip.block (Trip.sR tblOk (by repeat' (first | exact rfl | (apply Rule.sem; intro hγ; with_reducible apply F_call0 (x := .func 32) (B := []) hγ (hspec := c11)) | exact idx_map _ _ _ (by show _ < _; first | omega | (simp only [List.length_map] at *; omega)) | ((with_reducible refine Side.mk ?_); first | exact .inl rfl | (simp only [ln]; first | done | omega)) | constructor)) ?_)))
  apply Trip.cond (.tmp rfl)
  ·intro h5
   simp at h5
  intro h5
  refine Trip.skip (Trip.R tblOk (by repeat' (first | exact rfl | ((with_reducible refine Side.mk ?_); omega) | constructor)) ?_)
  exact ⟨i + 1, by first | omega | (dsimp only at *; omega), by first | omega | (dsimp only at *; omega), Weak.kp⟩
 intro h3
 refine Trip.exit (Trip.sr tblOk ?_)
 refine Trip.ret (rt1 [] (hc := by repeat' (exact cvB (by simp only [List.length_map]))))
end Go.Proofs.Tryz
