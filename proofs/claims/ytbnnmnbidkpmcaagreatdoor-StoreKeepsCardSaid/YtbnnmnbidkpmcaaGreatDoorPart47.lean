/- The law holds for every input: it returns true and leaves its arguments as they were; the card ties the listed variables to the text of the program. No further conditions. -/
import Derived.Test.YtbnnmnbidkpmcaaGreatDoorPart46
import Derived.Test.YtbnnmnbidkpmcaaGreatDoorTie
import Derived.Test.YtbnnmnbidkpmcaaGreatDoorCards
import Derived.OpenShut
import Derived.SevenTiedAt
set_option linter.unusedVariables false
set_option linter.unusedSimpArgs false
namespace Go.Graft
open Go.Sym
def goodIt (x : It) : Prop := wholeE x.kind x.body = 0 ∧ objId x.kind x.body = x.id
def ascI (l : List It) : Prop := asc (l.map It.id)
theorem right_iff (l : List It) : rightSt l = true ↔ (l.length : Int) ≤ 65536 ∧ ascI l ∧ ∀ x ∈ l, goodIt x := by
 constructor
 ·intro h
  rw [rightSt, Bool.and_eq_true, decide_eq_true_eq, List.all_eq_true] at h
  have hb : ∀ i, i < l.length → itemBad l i = false := fun i hi => by simpa using h.2 i (List.mem_range.2 hi)
  have hg : ∀ i, i < l.length → goodIt l[i]! ∧ (0 < i → bl l[i - 1]!.id l[i]!.id = true) := fun i hi => by
   have := hb i hi
   simp only [itemBad, Bool.or_eq_false_iff, Bool.and_eq_false_iff, decide_eq_false_iff_not, Bool.not_eq_false', decide_eq_true_eq] at this
   exact ⟨⟨this.1.2, this.2⟩, fun h0 => this.1.1.resolve_left (by omega)⟩
  refine ⟨h.1, ?_, fun x hx => ?_⟩
  ·have key : ∀ (d i : Nat), i + d + 1 < l.length → bl l[i]!.id l[i + d + 1]!.id = true := by
    intro d
    induction d with
    | zero => intro i hi; exact (hg (i + 1) hi).2 (by omega)
    | succ d ih =>
     intro i hi
     have h1 := ih i (by omega)
     have h2 := (hg (i + (d + 1) + 1) hi).2 (by omega)
     rw [show i + (d + 1) + 1 - 1 = i + d + 1 by omega] at h2
     exact bl_trans h1 h2
   rw [ascI, asc, List.pairwise_iff_getElem]
   intro i j hi hj hij
   rw [List.length_map] at hi hj
   rw [List.getElem_map, List.getElem_map]
   have := key (j - i - 1) i (by omega)
   rw [show i + (j - i - 1) + 1 = j by omega, getElem!_pos l i hi, getElem!_pos l j hj] at this
   exact this
  ·obtain ⟨i, hi, rfl⟩ := List.mem_iff_getElem.1 hx
   have := (hg i hi).1
   rwa [getElem!_pos l i hi] at this
 ·rintro ⟨h1, h2, h3⟩
  rw [rightSt, Bool.and_eq_true, decide_eq_true_eq, List.all_eq_true]
  refine ⟨h1, fun i hi => ?_⟩
  have hi := List.mem_range.1 hi
  have hg := h3 _ (bang_mem hi)
  have ha : decide (0 < (i : Int)) = false ∨ bl l[i - 1]!.id l[i]!.id = true := by
   cases i with
   | zero => exact .inl rfl
   | succ i =>
    right
    rw [ascI, asc, List.pairwise_iff_getElem] at h2
    have := h2 i (i + 1) (by rw [List.length_map]; omega) (by rw [List.length_map]; omega) (by omega)
    rw [List.getElem_map, List.getElem_map] at this
    rw [show i + 1 - 1 = i by omega, getElem!_pos l i (by omega), getElem!_pos l (i + 1) hi]
    exact this
  rw [Bool.not_eq_true']
  simp only [itemBad, Bool.or_eq_false_iff, Bool.and_eq_false_iff, Bool.not_eq_false', decide_eq_true_eq]
  exact ⟨⟨ha, hg.1⟩, hg.2⟩
theorem hvAt_congr {p q : Nat → Bool} : ∀ (d lo hi : Nat), hi - lo = d → (∀ i, i < hi → p i = q i) → hvAt p lo hi = hvAt q lo hi := by
 intro d
 induction d using Nat.strongRecOn with
 | _ d ih =>
  intro lo hi hd h
  by_cases hl : lo < hi
  ·rw [hvAt_lt _ _ _ hl, hvAt_lt _ _ _ hl, h _ (by omega)]
   split
   ·exact ih _ (by omega) _ _ rfl h
   ·exact ih _ (by omega) _ _ rfl fun i hi' => h i (by omega)
  ·rw [hvAt_ge _ _ _ hl, hvAt_ge _ _ _ hl]
theorem map_id_bang (l : List It) {i : Nat} (h : i < l.length) : (l.map It.id)[i]! = l[i]!.id := by
 rw [getElem!_pos _ i (by rw [List.length_map]; exact h), getElem!_pos l i h, List.getElem_map]
theorem place_spot (l : List It) (x : Str) : place l x = spot (l.map It.id) x := by
 rw [place, spot, List.length_map, halve_eq, halve_eq]
 exact hvAt_congr _ _ _ rfl fun i hi => by rw [map_id_bang l hi]
theorem placed_holds (l : List It) (x : Str) : placed l x = holdsP (l.map It.id) x := by
 rw [placed, holdsP, ← place_spot, List.length_map]
 by_cases h : place l x < l.length
 ·rw [map_id_bang l h, decide_eq_true h, decide_eq_true (by omega : ((place l x : Nat) : Int) < (l.length : Int))]; rfl
 ·rw [decide_eq_false h, decide_eq_false (by omega : ¬ ((place l x : Nat) : Int) < (l.length : Int))]; rfl
theorem placed_iff {l : List It} (h : ascI l) (x : Str) : placed l x = true ↔ ∃ y ∈ l, y.id = x := by
 rw [placed_holds, holds_iff h, List.mem_map]
theorem asc_eq {l : List It} (h : ascI l) {x y : It} (hx : x ∈ l) (hy : y ∈ l) (he : x.id = y.id) : x = y := by
 obtain ⟨i, hi, rfl⟩ := List.mem_iff_getElem.1 hx
 obtain ⟨j, hj, rfl⟩ := List.mem_iff_getElem.1 hy
 rw [ascI, asc, List.pairwise_iff_getElem] at h
 rcases Nat.lt_trichotomy i j with hij | rfl | hij
 ·have := h i j (by rw [List.length_map]; exact hi) (by rw [List.length_map]; exact hj) hij
  rw [List.getElem_map, List.getElem_map, he, bl_irr] at this; simp at this
 ·rfl
 ·have := h j i (by rw [List.length_map]; exact hj) (by rw [List.length_map]; exact hi) hij
  rw [List.getElem_map, List.getElem_map, he, bl_irr] at this; simp at this
theorem place_of {l : List It} (h : ascI l) {x : It} (hx : x ∈ l) : placed l x.id = true ∧ l[place l x.id]! = x := by
 have hp := (placed_iff h x.id).2 ⟨x, hx, rfl⟩
 obtain ⟨h1, h2⟩ := placed_lt hp
 exact ⟨hp, asc_eq h (bang_mem h1) hx h2⟩
theorem ascI_cons {x : It} {l : List It} : ascI (x :: l) ↔ (∀ y ∈ l, bl x.id y.id = true) ∧ ascI l := by
 rw [ascI, asc, List.map_cons, List.pairwise_cons]
 constructor
 ·rintro ⟨h1, h2⟩
  exact ⟨fun y hy => h1 _ (List.mem_map.2 ⟨y, hy, rfl⟩), h2⟩
 ·rintro ⟨h1, h2⟩
  exact ⟨fun z hz => by obtain ⟨y, hy, rfl⟩ := List.mem_map.1 hz; exact h1 y hy, h2⟩
theorem bl_same {a b : Str} (h1 : bl a b = false) (h2 : bl b a = false) : a = b := by
 rcases bl_tri a b with h | h | h
 ·rw [h1] at h; simp at h
 ·rw [h2] at h; simp at h
 ·exact h
theorem uni_ind {p : List It → List It → Prop} (h0 : ∀ b, p [] b) (h1 : ∀ x a, p (x :: a) []) (h2 : ∀ x a y b, p a (y :: b) → p (x :: a) b → p a b → p (x :: a) (y :: b)) : ∀ (n : Nat) (a b : List It), a.length + b.length = n → p a b := by
 intro n
 induction n using Nat.strongRecOn with
 | _ n ih =>
  intro a b hn
  cases a with
  | nil => exact h0 b
  | cons x a =>
   cases b with
   | nil => exact h1 x a
   | cons y b =>
    simp only [List.length_cons] at hn
    exact h2 x a y b (ih (a.length + (y :: b).length) (by simp only [List.length_cons]; omega) a (y :: b) rfl) (ih ((x :: a).length + b.length) (by simp only [List.length_cons]; omega) (x :: a) b rfl) (ih (a.length + b.length) (by omega) a b rfl)
theorem uniC_comm (a b : List It) : uniC a b = uniC b a := by
 refine uni_ind (p := fun a b => uniC a b = uniC b a) (fun b => ?_) (fun x a => ?_) (fun x a y b i1 i2 i3 => ?_) _ a b rfl
 ·rw [uniC_nil, uniC]
 ·rw [uniC, uniC]
 ·rw [uniC, uniC]
  by_cases g1 : Op.bytesLess x.id y.id = true
  ·rw [if_pos g1, if_neg (by rw [show Op.bytesLess y.id x.id = false from bl_asym g1]; simp), if_pos g1, i1]
  ·rw [if_neg g1]
   by_cases g2 : Op.bytesLess y.id x.id = true
   ·rw [if_pos g2, if_pos g2, i2]
   ·rw [if_neg g2, if_neg g2, if_neg g1, i3, show decide (x = y) = decide (y = x) from decide_eq_decide.2 eq_comm]
theorem uni_comm (a b : List It) : uniC a b = false → uni a b = uni b a := by
 refine uni_ind (p := fun a b => uniC a b = false → uni a b = uni b a) (fun b _ => ?_) (fun x a _ => ?_) (fun x a y b i1 i2 i3 => ?_) _ a b rfl
 ·rw [uni_nil, uni]
 ·rw [uni, uni]
 ·rw [uniC, uni, uni]
  by_cases g1 : Op.bytesLess x.id y.id = true
  ·rw [if_pos g1, if_pos g1, if_neg (by rw [show Op.bytesLess y.id x.id = false from bl_asym g1]; simp), if_pos g1]
   exact fun h => by rw [i1 h]
  ·rw [if_neg g1, if_neg g1]
   by_cases g2 : Op.bytesLess y.id x.id = true
   ·rw [if_pos g2, if_pos g2, if_pos g2]
    exact fun h => by rw [i2 h]
   ·rw [if_neg g2, if_neg g2, if_neg g2, if_neg g1, Bool.or_eq_false_iff, Bool.not_eq_false', decide_eq_true_eq]
    exact fun h => by rw [i3 h.2, h.1]
theorem unionE_comm (a b : List It) : unionE a b = unionE b a := by
 rw [unionE, unionE, uniC_comm a b]
 by_cases h : uniC b a = true
 ·rw [if_pos h, if_pos h]
 ·have h : uniC b a = false := by simpa using h
  rw [uni_comm a b (by rw [uniC_comm]; exact h)]
theorem unionL_comm (a b : List It) : unionL a b = unionL b a := by
 rw [unionL, unionL, unionE_comm a b]
 split
 ·rfl
 ·rename_i h
  have hc : uniC b a = false := by
   cases hc : uniC b a with
   | false => rfl
   | true => rw [unionE, hc] at h; simp at h
  exact uni_comm a b (by rw [uniC_comm]; exact hc)
theorem uni_mem (a b : List It) (z : It) : z ∈ uni a b → z ∈ a ∨ z ∈ b := by
 refine uni_ind (p := fun a b => z ∈ uni a b → z ∈ a ∨ z ∈ b) (fun b h => ?_) (fun x a h => ?_) (fun x a y b i1 i2 i3 h => ?_) _ a b rfl
 ·rw [uni] at h; exact .inr h
 ·rw [uni] at h; exact .inl h
 ·rw [uni] at h
  split at h
  ·rcases List.mem_cons.1 h with rfl | h
   ·exact .inl List.mem_cons_self
   ·exact (i1 h).imp (List.mem_cons_of_mem _) id
  ·split at h
   ·rcases List.mem_cons.1 h with rfl | h
    ·exact .inr List.mem_cons_self
    ·exact (i2 h).imp id (List.mem_cons_of_mem _)
   ·rcases List.mem_cons.1 h with rfl | h
    ·exact .inl List.mem_cons_self
    ·exact (i3 h).imp (List.mem_cons_of_mem _) (List.mem_cons_of_mem _)
theorem uni_asc (a b : List It) : ascI a → ascI b → ascI (uni a b) := by
 refine uni_ind (p := fun a b => ascI a → ascI b → ascI (uni a b)) (fun b _ h => ?_) (fun x a h _ => ?_) (fun x a y b i1 i2 i3 ha hb => ?_) _ a b rfl
 ·rw [uni]; exact h
 ·rw [uni]; exact h
 ·obtain ⟨a1, a2⟩ := ascI_cons.1 ha
  obtain ⟨b1, b2⟩ := ascI_cons.1 hb
  rw [uni]
  split
  ·rename_i g1
   refine ascI_cons.2 ⟨fun z hz => ?_, i1 a2 hb⟩
   rcases uni_mem _ _ z hz with h | h
   ·exact a1 z h
   ·rcases List.mem_cons.1 h with rfl | h
    ·exact g1
    ·exact bl_trans g1 (b1 z h)
  ·rename_i g1
   split
   ·rename_i g2
    refine ascI_cons.2 ⟨fun z hz => ?_, i2 ha b2⟩
    rcases uni_mem _ _ z hz with h | h
    ·rcases List.mem_cons.1 h with rfl | h
     ·exact g2
     ·exact bl_trans g2 (a1 z h)
    ·exact b1 z h
   ·rename_i g2
    have he : x.id = y.id := bl_same (by simpa using g1) (by simpa using g2)
    refine ascI_cons.2 ⟨fun z hz => ?_, i3 a2 b2⟩
    rcases uni_mem _ _ z hz with h | h
    ·exact a1 z h
    ·rw [he]; exact b1 z h
theorem uni_less (q : Str → Bool) (a b : List It) : (∀ y ∈ b, q y.id = false) → (uni a b).filter (fun x => q x.id) = a.filter fun x => q x.id := by
 refine uni_ind (p := fun a b => (∀ y ∈ b, q y.id = false) → (uni a b).filter (fun x => q x.id) = a.filter fun x => q x.id) (fun b h => ?_) (fun x a _ => ?_) (fun x a y b i1 i2 i3 h => ?_) _ a b rfl
 ·rw [uni, List.filter_nil, List.filter_eq_nil_iff]
  exact fun z hz => by rw [h z hz]; simp
 ·rw [uni]
 ·rw [uni]
  split
  ·rw [List.filter_cons, List.filter_cons, i1 h]
  ·rename_i g1
   split
   ·rw [List.filter_cons_of_neg (by rw [h y List.mem_cons_self]; simp), i2 fun z hz => h z (List.mem_cons_of_mem _ hz)]
   ·rename_i g2
    have he : x.id = y.id := bl_same (by simpa using g1) (by simpa using g2)
    rw [List.filter_cons, List.filter_cons, i3 fun z hz => h z (List.mem_cons_of_mem _ hz)]
theorem union_ok {a b : List It} (ha : rightSt a = true) (hb : rightSt b = true) (h : unionE a b = 0) : unionL a b = uni a b ∧ rightSt (unionL a b) = true ∧ ((unionL a b).filter fun x => !placed b x.id) = a.filter fun x => !placed b x.id := by
 obtain ⟨a1, a2, a3⟩ := (right_iff a).1 ha
 obtain ⟨b1, b2, b3⟩ := (right_iff b).1 hb
 have hL : unionL a b = uni a b := by rw [unionL, if_neg (by simp [h])]
 rw [hL]
 refine ⟨rfl, (right_iff _).2 ⟨?_, uni_asc a b a2 b2, fun x hx => (uni_mem a b x hx).elim (a3 x) (b3 x)⟩, uni_less (fun s => !placed b s) a b fun y hy => by rw [(place_of b2 hy).1]; rfl⟩
 rw [unionE] at h
 split at h
 ·omega
 ·split at h <;> omega
theorem put_right {l : List It} {k : Int} {b : Str} (hl : rightSt l = true) (h : putE l k b = 0) : rightSt (putL l k b) = true ∧ (∀ x ∈ l, x ∈ putL l k b) ∧ ⟨objId k b, k, b⟩ ∈ putL l k b ∧ (∀ x ∈ putL l k b, x = ⟨objId k b, k, b⟩ ∨ x ∈ l) ∧ (putL l k b).length ≤ l.length + 1 ∧ wholeE k b = 0 := by
 obtain ⟨l1, l2, l3⟩ := (right_iff l).1 hl
 have hw : wholeE k b = 0 := by
  rw [putE] at h
  split at h
  ·exact h
  ·rename_i hw; simpa using hw
 have hc : clashP l k b = false := by
  cases hc : clashP l k b with
  | false => rfl
  | true => rw [putE, if_neg (by simp [hw]), hc, if_pos rfl] at h; simp at h
 have hg : goodIt ⟨objId k b, k, b⟩ := ⟨hw, rfl⟩
 rw [putL, if_neg (by simp [h])]
 by_cases hp : placed l (objId k b) = true
 ·rw [if_pos hp]
  obtain ⟨p1, p2⟩ := placed_lt hp
  rw [clashP, hp, Bool.true_and, Bool.not_eq_false', Bool.and_eq_true, decide_eq_true_eq, decide_eq_true_eq] at hc
  have he : l[place l (objId k b)]! = ⟨objId k b, k, b⟩ := by
   generalize l[place l (objId k b)]! = y at *
   obtain ⟨i, k', b'⟩ := y
   dsimp only at *
   rw [p2, hc.1, hc.2]
  exact ⟨hl, fun x hx => hx, he ▸ bang_mem p1, fun x hx => .inr hx, by omega, hw⟩
 ·rw [if_neg hp]
  have hp : placed l (objId k b) = false := by simpa using hp
  have hsz : (l.length : Int) < 65536 := by
   rw [putE, if_neg (by simp [hw]), if_neg (by simp [hc]), hp] at h
   by_cases hs : (65536 : Int) ≤ l.length
   ·rw [decide_eq_true hs] at h; simp at h
   ·omega
  have hns : (l.take (place l (objId k b)) ++ (⟨objId k b, k, b⟩ :: l.drop (place l (objId k b)))).map It.id = insS (l.map It.id) (objId k b) := by
   rw [insS, ← placed_holds, hp, if_neg (by simp), ← place_spot, List.map_append, List.map_cons, List.map_take, List.map_drop]; simp
  have hlen : (l.take (place l (objId k b)) ++ (⟨objId k b, k, b⟩ :: l.drop (place l (objId k b)))).length = l.length + 1 := by
   have := place_le l (objId k b)
   simp only [List.length_append, List.length_cons, List.length_take, List.length_drop]; omega
  have hmem : ∀ x, x ∈ l.take (place l (objId k b)) ++ (⟨objId k b, k, b⟩ :: l.drop (place l (objId k b))) ↔ x = ⟨objId k b, k, b⟩ ∨ x ∈ l := fun x => by
   conv => rhs; rw [← List.take_append_drop (place l (objId k b)) l]
   simp only [List.mem_append, List.mem_cons]
   constructor
   ·rintro (h | h | h)
    ·exact .inr (.inl h)
    ·exact .inl h
    ·exact .inr (.inr h)
   ·rintro (h | h | h)
    ·exact .inr (.inl h)
    ·exact .inl h
    ·exact .inr (.inr h)
  refine ⟨(right_iff _).2 ⟨by rw [hlen]; omega, ?_, fun x hx => ?_⟩, fun x hx => (hmem x).2 (.inr hx), (hmem _).2 (.inl rfl), fun x hx => (hmem x).1 hx, by omega, hw⟩
  ·rw [ascI, hns]; exact insS_asc _ l2
  ·rcases (hmem x).1 hx with rfl | h
   ·exact hg
   ·exact l3 x h
end Go.Graft
namespace Go.Proofs.Tryz
open Go Go.Sym Go.Graft
set_option maxRecDepth 20000
abbrev obV (x : Int × Str) : PV := objPV x.1 x.2
def KeepI (l : List It) (obs : List (Int × Str)) (i : Nat) (b : Bool) (S : List It) : Prop :=
 i ≤ obs.length ∧ rightSt S = true ∧ S.length ≤ l.length + i ∧ (b = true → S = []) ∧ (∀ x ∈ l, x ∈ S) ∧ ∀ j, j < i → wholeE obs[j]!.1 obs[j]!.2 = 0 → ⟨objId obs[j]!.1 obs[j]!.2, obs[j]!.1, obs[j]!.2⟩ ∈ S
theorem KeepI.yes {l S : List It} {obs : List (Int × Str)} {i : Nat} {b : Bool} (h : KeepI l obs i b S) (hi : i < obs.length) (he : putE S obs[i]!.1 obs[i]!.2 = 0) : KeepI l obs (i + 1) false (putL S obs[i]!.1 obs[i]!.2) := by
 obtain ⟨_, h2, h3, h4, h5, h6⟩ := h
 obtain ⟨p1, p2, p3, p4, p5, _⟩ := put_right h2 he
 refine ⟨by omega, p1, by omega, fun h => by simp at h, fun x hx => p2 x (h5 x hx), fun j hj hw => ?_⟩
 rcases Nat.lt_succ_iff_lt_or_eq.1 hj with hj | rfl
 ·exact p2 _ (h6 j hj hw)
 ·exact p3
theorem KeepI.no {l S : List It} {obs : List (Int × Str)} {i : Nat} {b : Bool} (h : KeepI l obs i b S) (hi : i < obs.length) (hl : l.length ≤ 80) (ho : obs.length ≤ 20) (he : putE S obs[i]!.1 obs[i]!.2 ≠ 0) (he2 : putE S obs[i]!.1 obs[i]!.2 ≠ 170) : KeepI l obs (i + 1) b S := by
 obtain ⟨_, h2, h3, h4, h5, h6⟩ := h
 refine ⟨by omega, h2, by omega, h4, h5, fun j hj hw => ?_⟩
 rcases Nat.lt_succ_iff_lt_or_eq.1 hj with hj | rfl
 ·exact h6 j hj hw
 ·exfalso
  rw [putE, if_neg (fun k => k hw)] at he he2
  split at he
  ·rename_i hc; rw [if_pos hc] at he2; exact he2 rfl
  ·rw [decide_eq_false (by omega : ¬ (65536 : Int) ≤ S.length), Bool.and_false, if_neg (by simp)] at he
   exact he rfl
set_option maxHeartbeats 4000000 in
theorem cStoreKeeps (nl no : Bool) (l : List It) (obs : List (Int × Str)) (hnl : nl = true → l = []) : Ctr prog 4 [stPV nl l, .sl no 2 (obs.map obV)] [] (bV true) [] [] := by
 have c := cLives
 have c1 := cSmall nl l
 have hsm := fun h : smallP l = true => small_len h
 generalize smallP l = sm at *
 refine Ctr.enter tblOk func4 rfl (by decide) rfl (nt := 169) rfl rfl rfl rfl ?_
 refine Trip.sr tblOk ?_
 refine Trip.seq (Trip.sR tblOk (by repeat' (first | exact rfl | (apply Rule.sem; intro hγ; with_reducible apply F_call0 (x := .func 11) (B := []) hγ (hspec := c1)) | ((with_reducible refine Side.mk ?_); first | exact .inl rfl | exact fun h => h | exact fun _ h => congrArg Bool.not h) | constructor)) ?_)
 apply Trip.cond (.tmp rfl)
 ·intro h
  refine Trip.sR tblOk (by repeat' (first | exact rfl | (apply Rule.sem; intro hγ; with_reducible apply F_call0 (x := .func 8) (B := []) hγ (hspec := c)) | ((with_reducible refine Side.mk ?_); exact .inl rfl) | constructor)) ?_
  refine Trip.ret (rt1 [] (hc := by repeat' (exact cvB (by simp only [List.length_map]))))
 intro h
 have h : (!sm || decide ((20 : Int) < (((obs.map obV).length : Nat) : Int))) = false := h
 simp only [List.length_map, Bool.or_eq_false_iff, Bool.not_eq_false', decide_eq_false_iff_not] at h
 obtain ⟨hl, _, hr⟩ := hsm h.1
 have hol : obs.length ≤ 20 := by omega
 clear hsm c1 h
 refine Trip.skip (Trip.seq (Trip.sR tblOk (by repeat' (first | exact rfl | (apply Rule.sem; intro hγ; with_reducible apply F_call0 (x := .func 8) (B := []) hγ (hspec := c)) | ((with_reducible refine Side.mk ?_); exact .inl rfl) | constructor)) ?_))
 apply Trip.cond (.tmp rfl)
 ·intro h
  simp at h
 intro h
 clear h
 refine Trip.skip (Trip.sr tblOk ?_)
 refine Trip.seq (Trip.sr tblOk ?_)
 refine Trip.block ?_
 refine Trip.loop (fun (q : Nat × Bool × List It) => ⟨[(1, .sl no 2 (obs.map obV)), (2, .ref 2 0), (5, .ref 5 0), (6, iV q.1)], [(2, .box [.sl q.2.1 3 (q.2.2.map It.pv)]), (5, .box [.sl nl 3 (l.map It.pv)])]⟩) (fun (q : Nat × Bool × List It) => KeepI l obs q.1 q.2.1 q.2.2) (fun (q : Nat × Bool × List It) => obs.length - q.1) ((0, nl, l)) (by exact ⟨Nat.zero_le _, hr, by dsimp only; omega, hnl, fun _ h => h, fun j hj => absurd hj (by dsimp only; omega)⟩) Weak.kp ?_
 rintro ⟨i, b, S⟩ hI
 dsimp only at *
 have hSl := hI.2.2.1
 have hi := hI.1
 refine Trip.seq (Trip.sr tblOk ?_)
 apply Trip.cond (.tmp rfl)
 ·intro h
  have h : i < obs.length := by simp at h; omega
  have c2 := cPut b S obs[i]!.1 obs[i]!.2 hI.2.2.2.1 (by omega)
  have c3 := cPut17 b S obs[i]!.1 obs[i]!.2 hI.2.2.2.1 (by omega)
  have hy := fun he => hI.yes h he
  have hn := fun he he2 => hI.no h hl hol he he2
  have hPl : (putL S obs[i]!.1 obs[i]!.2).length ≤ 1000000000 := by
   rw [putL]
   split
   ·simp
   ·split
    ·omega
    ·simp only [List.length_append, List.length_cons, List.length_take, List.length_drop]; omega
  generalize putL S obs[i]!.1 obs[i]!.2 = PL at *
  generalize putI S obs[i]!.1 obs[i]!.2 = PI at *
  generalize putE S obs[i]!.1 obs[i]!.2 = PE at *
  have c4 := cSame17 (!decide (PE = 0)) (!decide (PE = 0)) PL PL hPl hPl
  refine Trip.skip (Trip.seq (Trip.block (Trip.seq (Trip.sR tblOk (by repeat' (first | exact rfl | exact idx_map _ _ _ (by show _ < _; first | omega | (simp only [List.length_map] at *; omega)) | ((with_reducible refine Side.mk ?_); (simp only [ln]; first | done | omega)) | constructor)) ?_))))
  apply Trip.cond (.tmp rfl)
  ·intro h2
   refine Trip.sR tblOk (by repeat' (first | exact rfl | (apply Rule.sem; intro hγ; with_reducible apply F_call0 (x := .func 8) (B := []) hγ (hspec := c)) | ((with_reducible refine Side.mk ?_); exact .inl rfl) | constructor)) ?_
   refine Trip.ret (rt1 [] (hc := by repeat' (exact cvB (by simp only [List.length_map]))))
  intro h2
  refine Trip.skip (Trip.sD tblOk mixed (by repeat' (first | exact rfl | (apply Rule.sem; intro hγ; with_reducible apply F_call0 (x := .func 12) (B := []) hγ (hspec := c2)) | exact idx_map _ _ _ (by show _ < _; first | omega | (simp only [List.length_map] at *; omega)) | ((with_reducible refine Side.mk ?_); first | exact .inl rfl | (simp only [ln]; first | done | omega)) | constructor)) ?_)
  refine Trip.sD tblOk mixed (by repeat' (first | exact rfl | (apply Rule.sem; intro hγ; with_reducible apply F_call0 (x := .func 13) (B := []) hγ (hspec := c3)) | exact idx_map _ _ _ (by show _ < _; first | omega | (simp only [List.length_map] at *; omega)) | ((with_reducible refine Side.mk ?_); first | exact .inl rfl | (simp only [ln]; first | done | omega)) | constructor)) ?_
  refine Trip.seq (Trip.sR tblOk (by repeat' (first | exact rfl | (apply Rule.sem; intro hγ; with_reducible apply F_call0 (x := .func 14) (B := []) hγ (hspec := c4)) | ((with_reducible refine Side.mk ?_); first | exact .inl rfl | exact fun h => h | exact fun _ h => congrArg Bool.not h) | constructor)) ?_)
  apply Trip.cond (.tmp rfl)
  ·intro h3
   exfalso
   simp at h3
  intro h3
  clear h3
  refine Trip.skip (Trip.seq (Trip.sr tblOk ?_))
  apply Trip.cond (.tmp rfl)
  ·intro h3
   refine Trip.sR tblOk (by repeat' (first | exact rfl | (apply Rule.sem; intro hγ; with_reducible apply F_call0 (x := .func 8) (B := []) hγ (hspec := c)) | ((with_reducible refine Side.mk ?_); exact .inl rfl) | constructor)) ?_
   refine Trip.ret (rt1 [] (hc := by repeat' (exact cvB (by simp only [List.length_map]))))
  intro h3
  have h3 : PE ≠ 170 := by simpa using h3
  refine Trip.skip (Trip.sr tblOk ?_)
  apply Trip.cond (.tmp rfl)
  ·intro h4
   have h4 : PE = 0 := by simpa using h4
   subst h4
   refine Trip.r tblOk ?_
   refine Trip.R tblOk (by repeat' (first | exact rfl | ((with_reducible refine Side.mk ?_); omega) | constructor)) ?_
   exact ⟨(i + 1, false, PL), by exact hy rfl, by first | omega | (dsimp only at *; omega), Weak.kp⟩
  ·intro h4
   have h4 : PE ≠ 0 := by simpa using h4
   refine Trip.skip (Trip.R tblOk (by repeat' (first | exact rfl | ((with_reducible refine Side.mk ?_); omega) | constructor)) ?_)
   exact ⟨(i + 1, b, S), by exact hn h4 h3, by first | omega | (dsimp only at *; omega), Weak.kp⟩
 intro h
 have h : i = obs.length := by simp at h; omega
 subst h
 obtain ⟨_, k2, k3, k4, k5, k6⟩ := hI
 obtain ⟨_, ka, _⟩ := (right_iff S).1 k2
 have c5 := cRight17 b S (by omega)
 rw [k2] at c5
 refine Trip.exit (Trip.seq (Trip.sR tblOk (by repeat' (first | exact rfl | (apply Rule.sem; intro hγ; with_reducible apply F_call0 (x := .func 10) (B := []) hγ (hspec := c5)) | ((with_reducible refine Side.mk ?_); exact .inl rfl) | constructor)) ?_))
 apply Trip.cond (.tmp rfl)
 ·intro h
  simp at h
 intro h
 clear h
 refine Trip.skip (Trip.seq (Trip.sr tblOk ?_))
 refine Trip.block ?_
 refine Trip.loop (fun (i : Nat) => ⟨[(1, .sl no 2 (obs.map obV)), (2, .ref 2 0), (5, .ref 5 0), (13, iV i)], [(2, .box [.sl b 3 (S.map It.pv)]), (5, .box [.sl nl 3 (l.map It.pv)])]⟩) (fun (i : Nat) => i ≤ obs.length) (fun (i : Nat) => obs.length - i) (0) (by first | omega | (simp; done)) Weak.kp ?_
 intro i hi
 refine Trip.seq (Trip.sr tblOk ?_)
 apply Trip.cond (.tmp rfl)
 ·intro h
  have h : i < obs.length := by simp at h; omega
  have k6 := k6 i h
  have c6 := cId2 obs[i]!.1 obs[i]!.2
  have c7 := cGet b S (objId obs[i]!.1 obs[i]!.2) (by omega)
  have c8 := cWhole16 obs[i]!.1 obs[i]!.2
  have hfin : (decide (wholeE obs[i]!.1 obs[i]!.2 = 0) && (!decide ((if placed S (objId obs[i]!.1 obs[i]!.2) then (0 : Int) else 5) = 0) || !(decide ((if placed S (objId obs[i]!.1 obs[i]!.2) then S[place S (objId obs[i]!.1 obs[i]!.2)]!.kind else 0) = obs[i]!.1) && (decide ((if placed S (objId obs[i]!.1 obs[i]!.2) then S[place S (objId obs[i]!.1 obs[i]!.2)]!.body else []) = obs[i]!.2) && true)))) = false := by
   by_cases hw : wholeE obs[i]!.1 obs[i]!.2 = 0
   ·have hp := place_of ka (k6 hw)
    dsimp only at hp
    rw [hp.1, hp.2]
    simp
   ·rw [decide_eq_false hw, Bool.false_and]
  generalize (if placed S (objId obs[i]!.1 obs[i]!.2) then (0 : Int) else 5) = ee at *
  generalize (if placed S (objId obs[i]!.1 obs[i]!.2) then S[place S (objId obs[i]!.1 obs[i]!.2)]!.kind else 0) = kk at *
  generalize (if placed S (objId obs[i]!.1 obs[i]!.2) then S[place S (objId obs[i]!.1 obs[i]!.2)]!.body else []) = bb at *
  generalize objId obs[i]!.1 obs[i]!.2 = oi at *
  generalize wholeE obs[i]!.1 obs[i]!.2 = we at *
  refine Trip.skip (Trip.seq (Trip.block (Trip.sD tblOk mixed (by repeat' (first | exact rfl | (apply Rule.sem; intro hγ; with_reducible apply F_call0 (x := .func 16) (B := []) hγ (hspec := c6)) | (apply Rule.sem; intro hγ; with_reducible apply F_call0 (x := .func 15) (B := []) hγ (hspec := c7)) | exact idx_map _ _ _ (by show _ < _; first | omega | (simp only [List.length_map] at *; omega)) | ((with_reducible refine Side.mk ?_); first | exact .inl rfl | (simp only [ln]; first | done | omega)) | constructor)) ?_)))
  refine Trip.sD tblOk mixed (by repeat' (first | exact rfl | (apply Rule.sem; intro hγ; with_reducible apply F_call0 (x := .func 17) (B := []) hγ (hspec := c8)) | exact idx_map _ _ _ (by show _ < _; first | omega | (simp only [List.length_map] at *; omega)) | ((with_reducible refine Side.mk ?_); first | exact .inl rfl | exact fun h => h | exact fun _ h => h | (simp only [ln]; first | done | omega) | (intro h1 h2; rw [h1, h2]; rfl)) | constructor)) ?_
  apply Trip.cond (.tmp rfl)
  ·intro h2
   have h2 := hfin.symm.trans h2
   simp at h2
  intro h2
  refine Trip.skip (Trip.R tblOk (by repeat' (first | exact rfl | ((with_reducible refine Side.mk ?_); omega) | constructor)) ?_)
  exact ⟨i + 1, by first | omega | (dsimp only at *; omega), by first | omega | (dsimp only at *; omega), Weak.kp⟩
 intro h
 clear h
 refine Trip.exit (Trip.seq (Trip.sr tblOk ?_))
 refine Trip.block ?_
 refine Trip.loop (fun (i : Nat) => ⟨[(2, .ref 2 0), (5, .ref 5 0), (16, iV i)], [(2, .box [.sl b 3 (S.map It.pv)]), (5, .box [.sl nl 3 (l.map It.pv)])]⟩) (fun (i : Nat) => i ≤ l.length) (fun (i : Nat) => l.length - i) (0) (by first | omega | (simp; done)) Weak.kp ?_
 intro i hi
 refine Trip.seq (Trip.sr tblOk ?_)
 apply Trip.cond (.tmp rfl)
 ·intro h
  have h : i < l.length := by simp at h; omega
  have hp := place_of ka (k5 _ (bang_mem h))
  have c7 := cGet b S l[i]!.id (by omega)
  rw [hp.1] at c7
  simp only [if_true] at c7
  rw [hp.2] at c7
  refine Trip.skip (Trip.seq (Trip.block (Trip.sD tblOk mixed (by repeat' (first | exact rfl | (apply Rule.sem; intro hγ; with_reducible apply F_call0 (x := .func 15) (B := []) hγ (hspec := c7)) | exact idx_map _ _ _ (by show _ < _; first | omega | (simp only [List.length_map] at *; omega)) | ((with_reducible refine Side.mk ?_); first | exact .inl rfl | (simp only [ln]; first | done | omega)) | constructor)) ?_)))
  refine Trip.sD tblOk mixed (by repeat' (first | exact rfl | exact idx_map _ _ _ (by show _ < _; first | omega | (simp only [List.length_map] at *; omega)) | ((with_reducible refine Side.mk ?_); first | exact fun h => h | exact fun _ h => congrArg Bool.not h | (simp only [ln]; first | done | omega)) | constructor)) ?_
  apply Trip.cond (.tmp rfl)
  ·intro h2
   exfalso
   simp at h2
  intro h2
  refine Trip.skip (Trip.R tblOk (by repeat' (first | exact rfl | ((with_reducible refine Side.mk ?_); omega) | constructor)) ?_)
  exact ⟨i + 1, by first | omega | (dsimp only at *; omega), by first | omega | (dsimp only at *; omega), Weak.kp⟩
 intro h
 clear h
 have c8 := cIds b S (by omega)
 have c9 := cIds2 b S (by omega)
 have c10 := cSameTexts S.isEmpty S.isEmpty (S.map It.id) (S.map It.id) (by rw [List.length_map]; omega) (by rw [List.length_map]; omega)
 refine Trip.exit (Trip.sD tblOk mixed (by repeat' (first | exact rfl | (apply Rule.sem; intro hγ; with_reducible apply F_call0 (x := .func 19) (B := []) hγ (hspec := c8)) | (apply Rule.sem; intro hγ; with_reducible apply F_call0 (x := .func 20) (B := []) hγ (hspec := c9)) | (apply Rule.sem; intro hγ; with_reducible apply F_call0 (x := .func 18) (B := []) hγ (hspec := c10)) | ((with_reducible refine Side.mk ?_); exact .inl rfl) | constructor)) ?_)
 refine Trip.ret (rt1 [] (hc := by repeat' (exact cvB (by simp))))
end Go.Proofs.Tryz
namespace Go.Proofs.YtbnnmnbidkpmcaaGreatDoor
open Go Go.Sym Go.Graft Go.Proofs.Tryz Go.ChangeShapes Go.WideShapes Go.ChangeAt Go.RowKit
set_option maxRecDepth 100000
theorem cells29 : Tryz.prog.cellsOf 29 = 2 := by kernel_rfl
theorem openObj : Opens Tryz.prog 29 (fun x : Int × Str => [iV x.1, sV x.2]) (fun _ => True) := by
 refine Opens.iso (Opens.struct Tryz.underlying29 (OpensF.cons rfl cells3 (Opens.int Tryz.underlying3) (OpensF.cons rfl cells9 (Opens.str Tryz.underlying9) (OpensF.nil (by rw [cells29]; decide))))) (fun x => ⟨x.1, x.2.1⟩) ?_
 rintro ⟨a, b, _⟩ _
 exact ⟨trivial, rfl⟩
theorem openObs : OpensA Tryz.prog 27 (fun x : Bool × List (Int × Str) => .sl x.1 2 (x.2.map obV)) (fun _ => True) :=
 OpensA.one Tryz.underlying27 rfl (Opens.iso (Opens.slice Tryz.underlying27 cells29 (by decide) openObj obV (fun _ => rfl)) (fun x => x) fun _ _ => ⟨trivial, rfl⟩)
theorem opensLaw : OpensL Tryz.prog [24, 27] (fun (x : (Bool × List It) × (Bool × List (Int × Str)) × Unit) => [stPV x.1.1 x.1.2, .sl x.2.1.1 2 (x.2.1.2.map obV)]) (fun x => GoodSt x.1 ∧ True ∧ True) := OpensL.cons openStA (OpensL.cons openObs OpensL.nil)
theorem ctrLaw : ∀ x, ((fun (x : (Bool × List It) × (Bool × List (Int × Str)) × Unit) => GoodSt x.1 ∧ True ∧ True) x) → Ctr Tryz.prog 4 ((fun (x : (Bool × List It) × (Bool × List (Int × Str)) × Unit) => [stPV x.1.1 x.1.2, .sl x.2.1.1 2 (x.2.1.2.map obV)]) x) [] (bV true) [] [] := fun x h => cStoreKeeps x.1.1 x.2.1.1 x.1.2 x.2.1.2 h.1.nl
theorem isLaw : IsLaw Rows.storeKeepsSpec 2 := ⟨rfl, fun H ds h => by
  match ds, h with
  | [d1, d2], _ => rfl⟩
theorem liftedLaw (os : Os) (started : os.Started) (H : Type) (enc : TypeId × Value → H) :
  ReturnsInHanded {} Tryz.checked os 4 .any (fun w args => (Rows.storeKeepsSpec.pre enc Tryz.prog Tryz.f4 Rows.storeKeepsRow.domain false w args ∧ laidMetH Tryz.prog Rows.storeKeepsRow.laid w) ∧ sizedMet enc Tryz.prog Tryz.f4 (OpenSpec.ofChange Rows.storeKeepsSpec) false w args)
   (Rows.storeKeepsSpec.post enc Tryz.prog Tryz.f4 false true false false) := by
 refine lifted_of (C := Tryz.checked) (X := fun w _ => laidMetH Tryz.prog Rows.storeKeepsRow.laid w) (fun _ _ _ hh h => h.of_heap hh) own started (by kernel_rfl) Tryz.func4
  (ChangeSpec.witness_shaped (enc := enc) (C := Tryz.checked) (os := os) (X := fun w _ => laidMetH Tryz.prog Rows.storeKeepsRow.laid w) false (World.laidAll Tryz.prog os Rows.storeKeepsRow.laid) #[.agg #[.slice none 0 0], .slice none 0 0] 8 (World.laidAll_os _ _ _)
   (World.shaped_of_ZipB (by kernel_rfl) (by kernel_rfl)) (by kernel_rfl) (by kernel_rfl) (by kernel_rfl)
   (by rw [MakeChecks.laidMetH_plain _ _ _ (by kernel_rfl)]; exact laidMet_laidAll _ (by kernel_rfl) (by kernel_rfl))) ?_
 intro W base args ds gs before hval hW hz hL hsh
 exact law_calls (P := Tryz.prog) (params := [24, 27]) Tryz.params4 (by kernel_rfl) Tryz.underlying4 isLaw laidOut (by kernel_rfl) opensLaw ctrLaw W (globs_of hL hsh) base args ds gs before hval hW hz
theorem storeKeeps_row : Rows.StoreKeepsSaid :=
 OpenClaim.holds_of_wide 4 Tryz.f4 rfl rfl rfl rfl rfl rfl rfl ⟨rfl, rfl, rfl, rfl, rfl⟩ rfl rfl rfl rfl rfl (by kernel_rfl) Tryz.func4 (by kernel_rfl)
  (of_decide_eq_true (by kernel_rfl)) (by unfold Func.isWrapper; first | (rw [if_pos (by decide +kernel)]; kernel_rfl) | (rw [if_neg (by decide +kernel)]; exact ⟨rfl, rfl⟩))
  (fun os started H enc _ => liftedLaw os started H enc)
theorem storeKeeps_holds : Rows.StoreKeepsCardSaid :=
 Claim7.holds_tied_plain_at .later [] [.data, .data, .data, .data, .sentinel, .sentinel, .data, .pinned] true (true, "9e54dca1ea43922e5e6cb49179b4ac4e8da0e10883ad77a8c69e33fb19bdce23") true storeKeeps_row (fun _ h => by cases h) (by kernel_rfl) (fun _ h => by cases h) storeKeeps_row_tie rfl ⟨rfl, rfl⟩ (by kernel_rfl) rfl
  (fun f fn hf hfn => by
   obtain rfl : f = 4 := Option.some.inj ((show Tryz.prog.funcNamed "graftage/graftagelaw17.StoreKeeps" = some 4 by kernel_rfl).symm.trans hf) |>.symm
   obtain rfl : fn = Tryz.f4 := (Option.some.inj (Tryz.func4.symm.trans hfn)).symm
   exact ⟨by kernel_rfl, fun j t ht => by
    rw [Tryz.params4] at ht
    have hm : t ∈ [24, 27] := by simpa using Array.mem_of_getElem? ht
    have hall : ([24, 27].all fun u => !Tryz.prog.wantsStandIn u) = true := by kernel_rfl
    exact (show Tryz.prog.wantsStandIn t = false by simpa using List.all_eq_true.1 hall t hm)⟩)
  (by kernel_rfl)
end Go.Proofs.YtbnnmnbidkpmcaaGreatDoor
