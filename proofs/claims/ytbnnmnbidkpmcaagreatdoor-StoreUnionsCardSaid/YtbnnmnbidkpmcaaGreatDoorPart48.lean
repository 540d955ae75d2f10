/- The law holds for every input: it returns true and leaves its arguments as they were; the card ties the listed variables to the text of the program. No further conditions. -/
import Derived.Test.YtbnnmnbidkpmcaaGreatDoorPart47
import Derived.Test.YtbnnmnbidkpmcaaGreatDoorTie
import Derived.Test.YtbnnmnbidkpmcaaGreatDoorCards
import Derived.OpenShut
import Derived.SevenTiedAt
set_option linter.unusedVariables false
set_option linter.unusedSimpArgs false
namespace Go.Graft
open Go.Sym
def goodIt (x : It) : Prop := wholeE x.kind x.body = 0 ∧ objId x.kind x.body = x.id
def ascI (l : List It) : Prop := asc (l.map It.id)
theorem right_iff (l : List It) : rightSt l = true ↔ (l.length : Int) ≤ 65536 ∧ ascI l ∧ ∀ x ∈ l, goodIt x := by
 constructor
 ·intro h
  rw [rightSt, Bool.and_eq_true, decide_eq_true_eq, List.all_eq_true] at h
  have hb : ∀ i, i < l.length → itemBad l i = false := fun i hi => by simpa using h.2 i (List.mem_range.2 hi)
  have hg : ∀ i, i < l.length → goodIt l[i]! ∧ (0 < i → bl l[i - 1]!.id l[i]!.id = true) := fun i hi => by
   have := hb i hi
   simp only [itemBad, Bool.or_eq_false_iff, Bool.and_eq_false_iff, decide_eq_false_iff_not, Bool.not_eq_false', decide_eq_true_eq] at this
   exact ⟨⟨this.1.2, this.2⟩, fun h0 => this.1.1.resolve_left (by omega)⟩
  refine ⟨h.1, ?_, fun x hx => ?_⟩
  ·have key : ∀ (d i : Nat), i + d + 1 < l.length → bl l[i]!.id l[i + d + 1]!.id = true := by
    intro d
    induction d with
    | zero => intro i hi; exact (hg (i + 1) hi).2 (by omega)
    | succ d ih =>
     intro i hi
     have h1 := ih i (by omega)
     have h2 := (hg (i + (d + 1) + 1) hi).2 (by omega)
     rw [show i + (d + 1) + 1 - 1 = i + d + 1 by omega] at h2
     exact bl_trans h1 h2
   rw [ascI, asc, List.pairwise_iff_getElem]
   intro i j hi hj hij
   rw [List.length_map] at hi hj
   rw [List.getElem_map, List.getElem_map]
   have := key (j - i - 1) i (by omega)
   rw [show i + (j - i - 1) + 1 = j by omega, getElem!_pos l i hi, getElem!_pos l j hj] at this
   exact this
  ·obtain ⟨i, hi, rfl⟩ := List.mem_iff_getElem.1 hx
   have := (hg i hi).1
   rwa [getElem!_pos l i hi] at this
 ·rintro ⟨h1, h2, h3⟩
  rw [rightSt, Bool.and_eq_true, decide_eq_true_eq, List.all_eq_true]
  refine ⟨h1, fun i hi => ?_⟩
  have hi := List.mem_range.1 hi
  have hg := h3 _ (bang_mem hi)
  have ha : decide (0 < (i : Int)) = false ∨ bl l[i - 1]!.id l[i]!.id = true := by
   cases i with
   | zero => exact .inl rfl
   | succ i =>
    right
    rw [ascI, asc, List.pairwise_iff_getElem] at h2
    have := h2 i (i + 1) (by rw [List.length_map]; omega) (by rw [List.length_map]; omega) (by omega)
    rw [List.getElem_map, List.getElem_map] at this
    rw [show i + 1 - 1 = i by omega, getElem!_pos l i (by omega), getElem!_pos l (i + 1) hi]
    exact this
  rw [Bool.not_eq_true']
  simp only [itemBad, Bool.or_eq_false_iff, Bool.and_eq_false_iff, Bool.not_eq_false', decide_eq_true_eq]
  exact ⟨⟨ha, hg.1⟩, hg.2⟩
theorem hvAt_congr {p q : Nat → Bool} : ∀ (d lo hi : Nat), hi - lo = d → (∀ i, i < hi → p i = q i) → hvAt p lo hi = hvAt q lo hi := by
 intro d
 induction d using Nat.strongRecOn with
 | _ d ih =>
  intro lo hi hd h
  by_cases hl : lo < hi
  ·rw [hvAt_lt _ _ _ hl, hvAt_lt _ _ _ hl, h _ (by omega)]
   split
   ·exact ih _ (by omega) _ _ rfl h
   ·exact ih _ (by omega) _ _ rfl fun i hi' => h i (by omega)
  ·rw [hvAt_ge _ _ _ hl, hvAt_ge _ _ _ hl]
theorem map_id_bang (l : List It) {i : Nat} (h : i < l.length) : (l.map It.id)[i]! = l[i]!.id := by
 rw [getElem!_pos _ i (by rw [List.length_map]; exact h), getElem!_pos l i h, List.getElem_map]
theorem place_spot (l : List It) (x : Str) : place l x = spot (l.map It.id) x := by
 rw [place, spot, List.length_map, halve_eq, halve_eq]
 exact hvAt_congr _ _ _ rfl fun i hi => by rw [map_id_bang l hi]
theorem placed_holds (l : List It) (x : Str) : placed l x = holdsP (l.map It.id) x := by
 rw [placed, holdsP, ← place_spot, List.length_map]
 by_cases h : place l x < l.length
 ·rw [map_id_bang l h, decide_eq_true h, decide_eq_true (by omega : ((place l x : Nat) : Int) < (l.length : Int))]; rfl
 ·rw [decide_eq_false h, decide_eq_false (by omega : ¬ ((place l x : Nat) : Int) < (l.length : Int))]; rfl
theorem placed_iff {l : List It} (h : ascI l) (x : Str) : placed l x = true ↔ ∃ y ∈ l, y.id = x := by
 rw [placed_holds, holds_iff h, List.mem_map]
theorem asc_eq {l : List It} (h : ascI l) {x y : It} (hx : x ∈ l) (hy : y ∈ l) (he : x.id = y.id) : x = y := by
 obtain ⟨i, hi, rfl⟩ := List.mem_iff_getElem.1 hx
 obtain ⟨j, hj, rfl⟩ := List.mem_iff_getElem.1 hy
 rw [ascI, asc, List.pairwise_iff_getElem] at h
 rcases Nat.lt_trichotomy i j with hij | rfl | hij
 ·have := h i j (by rw [List.length_map]; exact hi) (by rw [List.length_map]; exact hj) hij
  rw [List.getElem_map, List.getElem_map, he, bl_irr] at this; simp at this
 ·rfl
 ·have := h j i (by rw [List.length_map]; exact hj) (by rw [List.length_map]; exact hi) hij
  rw [List.getElem_map, List.getElem_map, he, bl_irr] at this; simp at this
theorem place_of {l : List It} (h : ascI l) {x : It} (hx : x ∈ l) : placed l x.id = true ∧ l[place l x.id]! = x := by
 have hp := (placed_iff h x.id).2 ⟨x, hx, rfl⟩
 obtain ⟨h1, h2⟩ := placed_lt hp
 exact ⟨hp, asc_eq h (bang_mem h1) hx h2⟩
theorem ascI_cons {x : It} {l : List It} : ascI (x :: l) ↔ (∀ y ∈ l, bl x.id y.id = true) ∧ ascI l := by
 rw [ascI, asc, List.map_cons, List.pairwise_cons]
 constructor
 ·rintro ⟨h1, h2⟩
  exact ⟨fun y hy => h1 _ (List.mem_map.2 ⟨y, hy, rfl⟩), h2⟩
 ·rintro ⟨h1, h2⟩
  exact ⟨fun z hz => by obtain ⟨y, hy, rfl⟩ := List.mem_map.1 hz; exact h1 y hy, h2⟩
theorem bl_same {a b : Str} (h1 : bl a b = false) (h2 : bl b a = false) : a = b := by
 rcases bl_tri a b with h | h | h
 ·rw [h1] at h; simp at h
 ·rw [h2] at h; simp at h
 ·exact h
theorem uni_ind {p : List It → List It → Prop} (h0 : ∀ b, p [] b) (h1 : ∀ x a, p (x :: a) []) (h2 : ∀ x a y b, p a (y :: b) → p (x :: a) b → p a b → p (x :: a) (y :: b)) : ∀ (n : Nat) (a b : List It), a.length + b.length = n → p a b := by
 intro n
 induction n using Nat.strongRecOn with
 | _ n ih =>
  intro a b hn
  cases a with
  | nil => exact h0 b
  | cons x a =>
   cases b with
   | nil => exact h1 x a
   | cons y b =>
    simp only [List.length_cons] at hn
    exact h2 x a y b (ih (a.length + (y :: b).length) (by simp only [List.length_cons]; omega) a (y :: b) rfl) (ih ((x :: a).length + b.length) (by simp only [List.length_cons]; omega) (x :: a) b rfl) (ih (a.length + b.length) (by omega) a b rfl)
theorem uniC_comm (a b : List It) : uniC a b = uniC b a := by
 refine uni_ind (p := fun a b => uniC a b = uniC b a) (fun b => ?_) (fun x a => ?_) (fun x a y b i1 i2 i3 => ?_) _ a b rfl
 ·rw [uniC_nil, uniC]
 ·rw [uniC, uniC]
 ·rw [uniC, uniC]
  by_cases g1 : Op.bytesLess x.id y.id = true
  ·rw [if_pos g1, if_neg (by rw [show Op.bytesLess y.id x.id = false from bl_asym g1]; simp), if_pos g1, i1]
  ·rw [if_neg g1]
   by_cases g2 : Op.bytesLess y.id x.id = true
   ·rw [if_pos g2, if_pos g2, i2]
   ·rw [if_neg g2, if_neg g2, if_neg g1, i3, show decide (x = y) = decide (y = x) from decide_eq_decide.2 eq_comm]
theorem uni_comm (a b : List It) : uniC a b = false → uni a b = uni b a := by
 refine uni_ind (p := fun a b => uniC a b = false → uni a b = uni b a) (fun b _ => ?_) (fun x a _ => ?_) (fun x a y b i1 i2 i3 => ?_) _ a b rfl
 ·rw [uni_nil, uni]
 ·rw [uni, uni]
 ·rw [uniC, uni, uni]
  by_cases g1 : Op.bytesLess x.id y.id = true
  ·rw [if_pos g1, if_pos g1, if_neg (by rw [show Op.bytesLess y.id x.id = false from bl_asym g1]; simp), if_pos g1]
   exact fun h => by rw [i1 h]
  ·rw [if_neg g1, if_neg g1]
   by_cases g2 : Op.bytesLess y.id x.id = true
   ·rw [if_pos g2, if_pos g2, if_pos g2]
    exact fun h => by rw [i2 h]
   ·rw [if_neg g2, if_neg g2, if_neg g2, if_neg g1, Bool.or_eq_false_iff, Bool.not_eq_false', decide_eq_true_eq]
    exact fun h => by rw [i3 h.2, h.1]
theorem unionE_comm (a b : List It) : unionE a b = unionE b a := by
 rw [unionE, unionE, uniC_comm a b]
 by_cases h : uniC b a = true
 ·rw [if_pos h, if_pos h]
 ·have h : uniC b a = false := by simpa using h
  rw [uni_comm a b (by rw [uniC_comm]; exact h)]
theorem unionL_comm (a b : List It) : unionL a b = unionL b a := by
 rw [unionL, unionL, unionE_comm a b]
 split
 ·rfl
 ·rename_i h
  have hc : uniC b a = false := by
   cases hc : uniC b a with
   | false => rfl
   | true => rw [unionE, hc] at h; simp at h
  exact uni_comm a b (by rw [uniC_comm]; exact hc)
theorem uni_mem (a b : List It) (z : It) : z ∈ uni a b → z ∈ a ∨ z ∈ b := by
 refine uni_ind (p := fun a b => z ∈ uni a b → z ∈ a ∨ z ∈ b) (fun b h => ?_) (fun x a h => ?_) (fun x a y b i1 i2 i3 h => ?_) _ a b rfl
 ·rw [uni] at h; exact .inr h
 ·rw [uni] at h; exact .inl h
 ·rw [uni] at h
  split at h
  ·rcases List.mem_cons.1 h with rfl | h
   ·exact .inl List.mem_cons_self
   ·exact (i1 h).imp (List.mem_cons_of_mem _) id
  ·split at h
   ·rcases List.mem_cons.1 h with rfl | h
    ·exact .inr List.mem_cons_self
    ·exact (i2 h).imp id (List.mem_cons_of_mem _)
   ·rcases List.mem_cons.1 h with rfl | h
    ·exact .inl List.mem_cons_self
    ·exact (i3 h).imp (List.mem_cons_of_mem _) (List.mem_cons_of_mem _)
theorem uni_asc (a b : List It) : ascI a → ascI b → ascI (uni a b) := by
 refine uni_ind (p := fun a b => ascI a → ascI b → ascI (uni a b)) (fun b _ h => ?_) (fun x a h _ => ?_) (fun x a y b i1 i2 i3 ha hb => ?_) _ a b rfl
 ·rw [uni]; exact h
 ·rw [uni]; exact h
 ·obtain ⟨a1, a2⟩ := ascI_cons.1 ha
  obtain ⟨b1, b2⟩ := ascI_cons.1 hb
  rw [uni]
  split
  ·rename_i g1
   refine ascI_cons.2 ⟨fun z hz => ?_, i1 a2 hb⟩
   rcases uni_mem _ _ z hz with h | h
   ·exact a1 z h
   ·rcases List.mem_cons.1 h with rfl | h
    ·exact g1
    ·exact bl_trans g1 (b1 z h)
  ·rename_i g1
   split
   ·rename_i g2
    refine ascI_cons.2 ⟨fun z hz => ?_, i2 ha b2⟩
    rcases uni_mem _ _ z hz with h | h
    ·rcases List.mem_cons.1 h with rfl | h
     ·exact g2
     ·exact bl_trans g2 (a1 z h)
    ·exact b1 z h
   ·rename_i g2
    have he : x.id = y.id := bl_same (by simpa using g1) (by simpa using g2)
    refine ascI_cons.2 ⟨fun z hz => ?_, i3 a2 b2⟩
    rcases uni_mem _ _ z hz with h | h
    ·exact a1 z h
    ·rw [he]; exact b1 z h
theorem uni_less (q : Str → Bool) (a b : List It) : (∀ y ∈ b, q y.id = false) → (uni a b).filter (fun x => q x.id) = a.filter fun x => q x.id := by
 refine uni_ind (p := fun a b => (∀ y ∈ b, q y.id = false) → (uni a b).filter (fun x => q x.id) = a.filter fun x => q x.id) (fun b h => ?_) (fun x a _ => ?_) (fun x a y b i1 i2 i3 h => ?_) _ a b rfl
 ·rw [uni, List.filter_nil, List.filter_eq_nil_iff]
  exact fun z hz => by rw [h z hz]; simp
 ·rw [uni]
 ·rw [uni]
  split
  ·rw [List.filter_cons, List.filter_cons, i1 h]
  ·rename_i g1
   split
   ·rw [List.filter_cons_of_neg (by rw [h y List.mem_cons_self]; simp), i2 fun z hz => h z (List.mem_cons_of_mem _ hz)]
   ·rename_i g2
    have he : x.id = y.id := bl_same (by simpa using g1) (by simpa using g2)
    rw [List.filter_cons, List.filter_cons, i3 fun z hz => h z (List.mem_cons_of_mem _ hz)]
theorem union_ok {a b : List It} (ha : rightSt a = true) (hb : rightSt b = true) (h : unionE a b = 0) : unionL a b = uni a b ∧ rightSt (unionL a b) = true ∧ ((unionL a b).filter fun x => !placed b x.id) = a.filter fun x => !placed b x.id := by
 obtain ⟨a1, a2, a3⟩ := (right_iff a).1 ha
 obtain ⟨b1, b2, b3⟩ := (right_iff b).1 hb
 have hL : unionL a b = uni a b := by rw [unionL, if_neg (by simp [h])]
 rw [hL]
 refine ⟨rfl, (right_iff _).2 ⟨?_, uni_asc a b a2 b2, fun x hx => (uni_mem a b x hx).elim (a3 x) (b3 x)⟩, uni_less (fun s => !placed b s) a b fun y hy => by rw [(place_of b2 hy).1]; rfl⟩
 rw [unionE] at h
 split at h
 ·omega
 ·split at h <;> omega
theorem put_right {l : List It} {k : Int} {b : Str} (hl : rightSt l = true) (h : putE l k b = 0) : rightSt (putL l k b) = true ∧ (∀ x ∈ l, x ∈ putL l k b) ∧ ⟨objId k b, k, b⟩ ∈ putL l k b ∧ (∀ x ∈ putL l k b, x = ⟨objId k b, k, b⟩ ∨ x ∈ l) ∧ (putL l k b).length ≤ l.length + 1 ∧ wholeE k b = 0 := by
 obtain ⟨l1, l2, l3⟩ := (right_iff l).1 hl
 have hw : wholeE k b = 0 := by
  rw [putE] at h
  split at h
  ·exact h
  ·rename_i hw; simpa using hw
 have hc : clashP l k b = false := by
  cases hc : clashP l k b with
  | false => rfl
  | true => rw [putE, if_neg (by simp [hw]), hc, if_pos rfl] at h; simp at h
 have hg : goodIt ⟨objId k b, k, b⟩ := ⟨hw, rfl⟩
 rw [putL, if_neg (by simp [h])]
 by_cases hp : placed l (objId k b) = true
 ·rw [if_pos hp]
  obtain ⟨p1, p2⟩ := placed_lt hp
  rw [clashP, hp, Bool.true_and, Bool.not_eq_false', Bool.and_eq_true, decide_eq_true_eq, decide_eq_true_eq] at hc
  have he : l[place l (objId k b)]! = ⟨objId k b, k, b⟩ := by
   generalize l[place l (objId k b)]! = y at *
   obtain ⟨i, k', b'⟩ := y
   dsimp only at *
   rw [p2, hc.1, hc.2]
  exact ⟨hl, fun x hx => hx, he ▸ bang_mem p1, fun x hx => .inr hx, by omega, hw⟩
 ·rw [if_neg hp]
  have hp : placed l (objId k b) = false := by simpa using hp
  have hsz : (l.length : Int) < 65536 := by
   rw [putE, if_neg (by simp [hw]), if_neg (by simp [hc]), hp] at h
   by_cases hs : (65536 : Int) ≤ l.length
   ·rw [decide_eq_true hs] at h; simp at h
   ·omega
  have hns : (l.take (place l (objId k b)) ++ (⟨objId k b, k, b⟩ :: l.drop (place l (objId k b)))).map It.id = insS (l.map It.id) (objId k b) := by
   rw [insS, ← placed_holds, hp, if_neg (by simp), ← place_spot, List.map_append, List.map_cons, List.map_take, List.map_drop]; simp
  have hlen : (l.take (place l (objId k b)) ++ (⟨objId k b, k, b⟩ :: l.drop (place l (objId k b)))).length = l.length + 1 := by
   have := place_le l (objId k b)
   simp only [List.length_append, List.length_cons, List.length_take, List.length_drop]; omega
  have hmem : ∀ x, x ∈ l.take (place l (objId k b)) ++ (⟨objId k b, k, b⟩ :: l.drop (place l (objId k b))) ↔ x = ⟨objId k b, k, b⟩ ∨ x ∈ l := fun x => by
   conv => rhs; rw [← List.take_append_drop (place l (objId k b)) l]
   simp only [List.mem_append, List.mem_cons]
   constructor
   ·rintro (h | h | h)
    ·exact .inr (.inl h)
    ·exact .inl h
    ·exact .inr (.inr h)
   ·rintro (h | h | h)
    ·exact .inr (.inl h)
    ·exact .inl h
    ·exact .inr (.inr h)
  refine ⟨(right_iff _).2 ⟨by rw [hlen]; omega, ?_, fun x hx => ?_⟩, fun x hx => (hmem x).2 (.inr hx), (hmem _).2 (.inl rfl), fun x hx => (hmem x).1 hx, by omega, hw⟩
  ·rw [ascI, hns]; exact insS_asc _ l2
  ·rcases (hmem x).1 hx with rfl | h
   ·exact hg
   ·exact l3 x h
end Go.Graft
namespace Go.Proofs.Tryz
open Go Go.Sym Go.Graft
set_option maxRecDepth 20000
set_option maxHeartbeats 2000000 in
theorem cStoreUnions (na nb : Bool) (a b : List It) : Ctr prog 7 [stPV na a, stPV nb b] [] (bV true) [] [] := by
 have c := cLives
 have ca := cSmall na a
 have cb := cSmall nb b
 have sa := fun h : smallP a = true => small_len h
 have sb := fun h : smallP b = true => small_len h
 generalize smallP a = pa at *
 generalize smallP b = pb at *
 refine Ctr.enter tblOk func7 rfl (by decide) rfl (nt := 86) rfl rfl rfl rfl ?_
 refine Trip.sr tblOk ?_
 refine Trip.seq (Trip.sR tblOk (by repeat' (first | exact rfl | (apply Rule.sem; intro hγ; with_reducible apply F_call0 (dst := some 12) (x := .func 11) (B := []) hγ (hspec := ca)) | (apply Rule.sem; intro hγ; with_reducible apply F_call0 (dst := some 16) (x := .func 11) (B := []) hγ (hspec := cb)) | ((with_reducible refine Side.mk ?_); first | exact .inl rfl | exact fun h => h | exact fun _ h => congrArg Bool.not h) | constructor)) ?_)
 apply Trip.cond (.tmp rfl)
 ·intro h
  refine Trip.sR tblOk (by repeat' (first | exact rfl | (apply Rule.sem; intro hγ; with_reducible apply F_call0 (x := .func 8) (B := []) hγ (hspec := c)) | ((with_reducible refine Side.mk ?_); exact .inl rfl) | constructor)) ?_
  refine Trip.ret (rt1 [] (hc := by repeat' (exact cvB (by simp only [List.length_map]))))
 intro h
 have h : (!pa || !pb) = false := h
 rw [Bool.or_eq_false_iff, Bool.not_eq_false', Bool.not_eq_false'] at h
 obtain ⟨la, _, ra⟩ := sa h.1
 obtain ⟨lb, _, rb⟩ := sb h.2
 have c1 := cUnion na nb a b (by omega) (by omega)
 have c2 := cUnion17 na nb a b (by omega) (by omega)
 have c3 := cUnion nb na b a (by omega) (by omega)
 rw [← unionL_comm a b, ← unionE_comm a b] at c3
 have hok := fun h => union_ok ra rb h
 have hul : (unionL a b).length ≤ 160 := by
  rw [unionL]
  split
  ·simp
  ·have := uni_len _ a b rfl; omega
 generalize hu : unionL a b = u at *
 generalize unionE a b = e at *
 have d1 := cSame17 u.isEmpty u.isEmpty u u (by omega) (by omega)
 have e1 := cLessP na nb a b (by omega) (by omega)
 have e2 := cLess17 na nb a b (by omega) (by omega)
 have e3 := cLessP u.isEmpty nb u b (by omega) (by omega)
 have hF : (a.filter fun x => !placed b x.id).length ≤ a.length := List.length_filter_le _ _
 have hG : (u.filter fun x => !placed b x.id).length ≤ u.length := List.length_filter_le _ _
 generalize (a.filter fun x => !placed b x.id) = F at *
 generalize (u.filter fun x => !placed b x.id) = G at *
 have d2 := cSame17 F.isEmpty F.isEmpty F F (by omega) (by omega)
 have d3 := cSame17 G.isEmpty F.isEmpty G F (by omega) (by omega)
 have e4 := cRight17 u.isEmpty u (by omega)
 have hfin : (decide (F = F) && (!decide (e = 0) || (decide (G = F) && rightSt u))) = true := by
  by_cases he : e = 0
  ·obtain ⟨_, h2, h3⟩ := hok he
   rw [h2, h3]; simp
  ·simp [he]
 generalize rightSt u = ru at *
 refine Trip.skip (Trip.sR tblOk (by repeat' (first | exact rfl | (apply Rule.sem; intro hγ; with_reducible apply F_call0 (x := .func 33) (B := []) hγ (hspec := c1)) | ((with_reducible refine Side.mk ?_); exact .inl rfl) | constructor)) ?_)
 refine Trip.sR tblOk (by repeat' (first | exact rfl | (apply Rule.sem; intro hγ; with_reducible apply F_call0 (x := .func 34) (B := []) hγ (hspec := c2)) | ((with_reducible refine Side.mk ?_); exact .inl rfl) | constructor)) ?_
 refine Trip.sR tblOk (by repeat' (first | exact rfl | (apply Rule.sem; intro hγ; with_reducible apply F_call0 (x := .func 33) (B := []) hγ (hspec := c3)) | ((with_reducible refine Side.mk ?_); exact .inl rfl) | constructor)) ?_
 refine Trip.seq (Trip.sR tblOk (by repeat' (first | exact rfl | (apply Rule.sem; intro hγ; with_reducible apply F_call0 (x := .func 8) (B := []) hγ (hspec := c)) | (apply Rule.sem; intro hγ; with_reducible apply F_call0 (dst := some 43) (x := .func 14) (B := []) hγ (hspec := d1)) | (apply Rule.sem; intro hγ; with_reducible apply F_call0 (dst := some 54) (x := .func 14) (B := []) hγ (hspec := d1)) | ((with_reducible refine Side.mk ?_); first | exact .inl rfl | exact fun h => h | exact fun _ h => congrArg Bool.not h) | constructor)) ?_)
 apply Trip.cond (.tmp rfl)
 ·intro h
  exfalso
  simp at h
 intro h
 refine Trip.skip (Trip.sD tblOk mixed (by repeat' (first | exact rfl | (apply Rule.sem; intro hγ; with_reducible apply F_call0 (dst := some 64) (x := .func 35) (B := []) hγ (hspec := e1)) | (apply Rule.sem; intro hγ; with_reducible apply F_call0 (dst := some 67) (x := .func 36) (B := []) hγ (hspec := e2)) | (apply Rule.sem; intro hγ; with_reducible apply F_call0 (dst := some 68) (x := .func 14) (B := []) hγ (hspec := d2)) | (apply Rule.sem; intro hγ; with_reducible apply F_call0 (dst := some 75) (x := .func 35) (B := []) hγ (hspec := e3)) | (apply Rule.sem; intro hγ; with_reducible apply F_call0 (dst := some 78) (x := .func 36) (B := []) hγ (hspec := e2)) | (apply Rule.sem; intro hγ; with_reducible apply F_call0 (dst := some 79) (x := .func 14) (B := []) hγ (hspec := d3)) | (apply Rule.sem; intro hγ; with_reducible apply F_call0 (x := .func 10) (B := []) hγ (hspec := e4)) | ((with_reducible refine Side.mk ?_); first | exact .inl rfl | exact fun h => h | exact fun _ h => h | (intro _ h; simp [gpick, h]; done) | (intro h1 h2; rw [h1, h2]; rfl)) | constructor)) ?_)
 refine Trip.ret (rt1 [] (hc := by repeat' (exact cvB hfin)))
end Go.Proofs.Tryz
namespace Go.Proofs.YtbnnmnbidkpmcaaGreatDoor
open Go Go.Sym Go.Graft Go.Proofs.Tryz Go.ChangeShapes Go.WideShapes Go.ChangeAt Go.RowKit
set_option maxRecDepth 100000
theorem opensLaw : OpensL Tryz.prog [24, 24] (fun (x : (Bool × List It) × (Bool × List It) × Unit) => [stPV x.1.1 x.1.2, stPV x.2.1.1 x.2.1.2]) (fun x => GoodSt x.1 ∧ GoodSt x.2.1 ∧ True) := OpensL.cons openStA (OpensL.cons openStA OpensL.nil)
theorem ctrLaw : ∀ x, ((fun (x : (Bool × List It) × (Bool × List It) × Unit) => GoodSt x.1 ∧ GoodSt x.2.1 ∧ True) x) → Ctr Tryz.prog 7 ((fun (x : (Bool × List It) × (Bool × List It) × Unit) => [stPV x.1.1 x.1.2, stPV x.2.1.1 x.2.1.2]) x) [] (bV true) [] [] := fun x _ => cStoreUnions x.1.1 x.2.1.1 x.1.2 x.2.1.2
theorem isLaw : IsLaw Rows.storeUnionsSpec 2 := ⟨rfl, fun H ds h => by
  match ds, h with
  | [d1, d2], _ => rfl⟩
theorem liftedLaw (os : Os) (started : os.Started) (H : Type) (enc : TypeId × Value → H) :
  ReturnsInHanded {} Tryz.checked os 7 .any (fun w args => (Rows.storeUnionsSpec.pre enc Tryz.prog Tryz.f7 Rows.storeUnionsRow.domain false w args ∧ laidMetH Tryz.prog Rows.storeUnionsRow.laid w) ∧ sizedMet enc Tryz.prog Tryz.f7 (OpenSpec.ofChange Rows.storeUnionsSpec) false w args)
   (Rows.storeUnionsSpec.post enc Tryz.prog Tryz.f7 false true false false) := by
 refine lifted_of (C := Tryz.checked) (X := fun w _ => laidMetH Tryz.prog Rows.storeUnionsRow.laid w) (fun _ _ _ hh h => h.of_heap hh) own started (by kernel_rfl) Tryz.func7
  (ChangeSpec.witness_shaped (enc := enc) (C := Tryz.checked) (os := os) (X := fun w _ => laidMetH Tryz.prog Rows.storeUnionsRow.laid w) false (World.laidAll Tryz.prog os Rows.storeUnionsRow.laid) #[.agg #[.slice none 0 0], .agg #[.slice none 0 0]] 8 (World.laidAll_os _ _ _)
   (World.shaped_of_ZipB (by kernel_rfl) (by kernel_rfl)) (by kernel_rfl) (by kernel_rfl) (by kernel_rfl)
   (by rw [MakeChecks.laidMetH_plain _ _ _ (by kernel_rfl)]; exact laidMet_laidAll _ (by kernel_rfl) (by kernel_rfl))) ?_
 intro W base args ds gs before hval hW hz hL hsh
 exact law_calls (P := Tryz.prog) (params := [24, 24]) Tryz.params7 (by kernel_rfl) Tryz.underlying4 isLaw laidOut (by kernel_rfl) opensLaw ctrLaw W (globs_of hL hsh) base args ds gs before hval hW hz
theorem storeUnions_row : Rows.StoreUnionsSaid :=
 OpenClaim.holds_of_wide 7 Tryz.f7 rfl rfl rfl rfl rfl rfl rfl ⟨rfl, rfl, rfl, rfl, rfl⟩ rfl rfl rfl rfl rfl (by kernel_rfl) Tryz.func7 (by kernel_rfl)
  (of_decide_eq_true (by kernel_rfl)) (by unfold Func.isWrapper; first | (rw [if_pos (by decide +kernel)]; kernel_rfl) | (rw [if_neg (by decide +kernel)]; exact ⟨rfl, rfl⟩))
  (fun os started H enc _ => liftedLaw os started H enc)
theorem storeUnions_holds : Rows.StoreUnionsCardSaid :=
 Claim7.holds_tied_plain_at .later [] [.data, .data, .data, .data, .sentinel, .sentinel, .data, .pinned] true (true, "9e54dca1ea43922e5e6cb49179b4ac4e8da0e10883ad77a8c69e33fb19bdce23") true storeUnions_row (fun _ h => by cases h) (by kernel_rfl) (fun _ h => by cases h) storeUnions_row_tie rfl ⟨rfl, rfl⟩ (by kernel_rfl) rfl
  (fun f fn hf hfn => by
   obtain rfl : f = 7 := Option.some.inj ((show Tryz.prog.funcNamed "graftage/graftagelaw17.StoreUnions" = some 7 by kernel_rfl).symm.trans hf) |>.symm
   obtain rfl : fn = Tryz.f7 := (Option.some.inj (Tryz.func7.symm.trans hfn)).symm
   exact ⟨by kernel_rfl, fun j t ht => by
    rw [Tryz.params7] at ht
    have hm : t ∈ [24, 24] := by simpa using Array.mem_of_getElem? ht
    have hall : ([24, 24].all fun u => !Tryz.prog.wantsStandIn u) = true := by kernel_rfl
    exact (show Tryz.prog.wantsStandIn t = false by simpa using List.all_eq_true.1 hall t hm)⟩)
  (by kernel_rfl)
end Go.Proofs.YtbnnmnbidkpmcaaGreatDoor
