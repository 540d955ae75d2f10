/- A part of the proof: GRea, GUni, GRig, GShw, SymZB, SymZC. -/
import Derived.Test.YteailifhgfijgaaGreatDoorPart19
import Derived.Lib.ConvBytes
set_option linter.unusedVariables false
set_option linter.unusedSimpArgs false
namespace Go.Graft
open Go.Sym
def seenL (l : List Str) : List Str × List Bool := seenN l l.length
theorem seenN_app (l m : List Str) : ∀ i, i ≤ l.length → seenN (l ++ m) i = seenN l i
 | 0, _ => rfl
 | i + 1, h => by
  have ih := seenN_app l m i (by omega)
  have e : (l ++ m)[i]! = l[i]! := by
   rw [getElem!_pos _ i (by rw [List.length_append]; omega), getElem!_pos _ i (by omega), List.getElem_append_left]
  rw [seenN, seenN, ih, e]
theorem seenL_snoc (l : List Str) (x : Str) : seenL (l ++ [x]) = (mkeys (seenL l).1 x, mset (seenL l).1 (seenL l).2 x true) := by
 have e : (l ++ [x])[l.length]! = x := by
  rw [getElem!_pos _ l.length (by simp)]; simp
 rw [seenL, List.length_append, List.length_singleton, seenN, seenN_app l [x] _ (Nat.le_refl _), e]
 rfl
theorem seenL_len (l : List Str) : (seenL l).1.length = (seenL l).2.length := seenN_len l _
theorem seenL_val (l : List Str) (y : Str) : mval (seenL l).1 (seenL l).2 false y = hasS l y := by
 rw [seenL, seenN_val l y _ (Nat.le_refl _), List.take_length]
theorem hasS_iff (l : List Str) (x : Str) : hasS l x = true ↔ x ∈ l := by
 simp [hasS]
def nmAt (l : List It) (cuts : List Str) (x : Str) : List Str := nmsOf l[place l x]!.kind l[place l x]!.body (hasS cuts x)
inductive Rch (l : List It) (cuts frm : List Str) : Str → Prop
 | start {x : Str} : x ∈ frm → Rch l cuts frm x
 | step {x y : Str} : Rch l cuts frm x → placed l x = true → y ∈ nmAt l cuts x → Rch l cuts frm y
structure IsReach (l : List It) (cuts frm have' lack : List Str) : Prop where
 a1 : asc have'
 a2 : asc lack
 m1 : ∀ x, x ∈ have' ↔ Rch l cuts frm x ∧ placed l x = true
 m2 : ∀ x, x ∈ lack ↔ Rch l cuts frm x ∧ placed l x = false
theorem IsReach.uniq {l : List It} {cuts frm a b c d : List Str} (h : IsReach l cuts frm a b) (k : IsReach l cuts frm c d) : a = c ∧ b = d :=
 ⟨asc_unique h.a1 k.a1 fun x => (h.m1 x).trans (k.m1 x).symm, asc_unique h.a2 k.a2 fun x => (h.m2 x).trans (k.m2 x).symm⟩
structure Onway (l : List It) (cuts frm met next : List Str) : Prop where
 nd : met.Nodup
 r1 : ∀ x ∈ met, Rch l cuts frm x
 r2 : ∀ x ∈ next, Rch l cuts frm x
 f : ∀ x ∈ frm, x ∈ met ∨ x ∈ next
 c : ∀ x ∈ met, placed l x = true → ∀ y ∈ nmAt l cuts x, y ∈ met ∨ y ∈ next
theorem Onway.start (l : List It) (cuts frm : List Str) : Onway l cuts frm [] frm :=
 ⟨List.nodup_nil, by simp, fun x h => .start h, fun x h => .inr h, by simp⟩
theorem Onway.old {l : List It} {cuts frm met next next' : List Str} {x : Str} (h : Onway l cuts frm met next) (hn : ∀ y, y ∈ next ↔ y = x ∨ y ∈ next') (hx : x ∈ met) : Onway l cuts frm met next' where
 nd := h.nd
 r1 := h.r1
 r2 := fun y hy => h.r2 y ((hn y).2 (.inr hy))
 f := fun y hy => (h.f y hy).elim .inl fun k => ((hn y).1 k).elim (fun e => .inl (e ▸ hx)) .inr
 c := fun y hy hp z hz => (h.c y hy hp z hz).elim .inl fun k => ((hn z).1 k).elim (fun e => .inl (e ▸ hx)) .inr
theorem Onway.new {l : List It} {cuts frm met next next' met' : List Str} {x : Str} (h : Onway l cuts frm met next) (hn : ∀ y, y ∈ next → y = x ∨ y ∈ next') (hn2 : ∀ y, y ∈ next' → y ∈ next ∨ (placed l x = true ∧ y ∈ nmAt l cuts x)) (hxn : x ∈ next)
  (hx : x ∉ met) (hm : ∀ y, y ∈ met' ↔ y = x ∨ y ∈ met) (hnd : met'.Nodup) (hc : placed l x = true → ∀ y ∈ nmAt l cuts x, y ∈ next') : Onway l cuts frm met' next' where
 nd := hnd
 r1 := fun y hy => ((hm y).1 hy).elim (fun e => e ▸ h.r2 x hxn) (h.r1 y)
 r2 := fun y hy => (hn2 y hy).elim (h.r2 y) fun k => .step (h.r2 x hxn) k.1 k.2
 f := fun y hy => (h.f y hy).elim (fun k => .inl ((hm y).2 (.inr k))) fun k => (hn y k).elim (fun e => .inl ((hm y).2 (.inl e))) .inr
 c := fun y hy hp z hz => ((hm y).1 hy).elim (fun e => by subst e; exact .inr (hc hp z hz)) fun k => (h.c y k hp z hz).elim (fun k => .inl ((hm z).2 (.inr k))) fun k => (hn z k).elim (fun e => .inl ((hm z).2 (.inl e))) .inr
theorem Onway.done {l : List It} {cuts frm met : List Str} (h : Onway l cuts frm met []) (x : Str) : x ∈ met ↔ Rch l cuts frm x := by
 refine ⟨h.r1 x, fun hx => ?_⟩
 induction hx with
 | start hx => exact (h.f _ hx).elim id fun k => by simp at k
 | step _ hp hy ih => exact (h.c _ ih hp _ hy).elim id fun k => by simp at k
def toCome (l : List It) (cuts met : List Str) : List It → Nat
 | [] => 0
 | it :: r => (if hasS met it.id = true then 0 else 1 + (nmAt l cuts it.id).length) + toCome l cuts met r
theorem toCome_mono (l : List It) (cuts : List Str) {met met' : List Str} (h : ∀ x, x ∈ met → x ∈ met') : ∀ r, toCome l cuts met' r ≤ toCome l cuts met r
 | [] => Nat.le_refl _
 | it :: r => by
  have ih := toCome_mono l cuts h r
  simp only [toCome]
  by_cases h1 : hasS met it.id = true
  ·have h2 : hasS met' it.id = true := (hasS_iff _ _).2 (h _ ((hasS_iff _ _).1 h1))
   rw [if_pos h1, if_pos h2]; omega
  ·rw [if_neg h1]
   split <;> omega
theorem toCome_new (l : List It) (cuts : List Str) {met met' : List Str} {x : Str} (h : ∀ y, y ∈ met' ↔ y = x ∨ y ∈ met) (hx : x ∉ met) : ∀ r : List It, (∃ it ∈ r, it.id = x) → toCome l cuts met' r + 1 + (nmAt l cuts x).length ≤ toCome l cuts met r
 | [], hr => by simp at hr
 | it :: r, hr => by
  have hm := toCome_mono l cuts (met := met) (met' := met') (fun y hy => (h y).2 (.inr hy)) r
  simp only [toCome]
  by_cases e : it.id = x
  ·have h1 : ¬ hasS met it.id = true := fun k => hx (e ▸ (hasS_iff _ _).1 k)
   have h2 : hasS met' it.id = true := (hasS_iff _ _).2 ((h _).2 (.inl e))
   rw [if_neg h1, if_pos h2, e]; omega
  ·have ih := toCome_new l cuts h hx r (by
    obtain ⟨it', hm', he'⟩ := hr
    rcases List.mem_cons.1 hm' with rfl | hm'
    ·exact absurd he' e
    ·exact ⟨it', hm', he'⟩)
   have h3 : hasS met' it.id = hasS met it.id := by
    rw [Bool.eq_iff_iff, hasS_iff, hasS_iff, h]
    exact ⟨fun k => k.resolve_left e, .inr⟩
   rw [h3]; omega
theorem toCome_le (l : List It) (cuts met : List Str) : ∀ r : List It, toCome l cuts met r ≤ r.length * 1048578
 | [] => Nat.le_refl _
 | it :: r => by
  have ih := toCome_le l cuts met r
  have h : (nmAt l cuts it.id).length ≤ 1048577 := by
   rw [nmAt, nmsOf]
   have := linksOf_len l[place l it.id]!.kind l[place l it.id]!.body
   split
   ·rw [List.length_take]; omega
   ·exact this
  simp only [toCome, List.length_cons, Nat.succ_mul]
  split <;> omega
theorem placed_mem {l : List It} {x : Str} (h : placed l x = true) : ∃ it ∈ l, it.id = x := by
 obtain ⟨h1, h2⟩ := placed_lt h
 rw [getElem!_pos l _ h1] at h2
 exact ⟨_, List.getElem_mem h1, h2⟩
theorem nmAt_len (l : List It) (cuts : List Str) (x : Str) : (nmAt l cuts x).length ≤ 1048577 := by
 rw [nmAt, nmsOf]
 have := linksOf_len l[place l x]!.kind l[place l x]!.body
 split
 ·rw [List.length_take]; omega
 ·exact this
theorem Onway.reach {l : List It} {cuts frm met a b : List Str} (h : Onway l cuts frm met []) (ha : asc a) (hb : asc b) (h1 : ∀ x, x ∈ a ↔ x ∈ met.filter (placed l)) (h2 : ∀ x, x ∈ b ↔ x ∈ met.filter fun x => !placed l x) : IsReach l cuts frm a b :=
 ⟨ha, hb, fun x => by rw [h1, List.mem_filter, h.done], fun x => by rw [h2, List.mem_filter, h.done]; simp⟩
open Classical in
theorem reach_ex (l : List It) (cuts frm : List Str) : ∃ a b, IsReach l cuts frm a b := by
 have hmem : ∀ x, Rch l cuts frm x → x ∈ frm ++ l.flatMap fun it => nmAt l cuts it.id := by
  intro x hx
  cases hx with
  | start h => simp [h]
  | step h1 h2 h3 =>
   obtain ⟨it, hi, rfl⟩ := placed_mem h2
   rw [List.mem_append, List.mem_flatMap]
   exact .inr ⟨it, hi, h3⟩
 refine ⟨sortS ((frm ++ l.flatMap fun it => nmAt l cuts it.id).filter fun x => decide (Rch l cuts frm x ∧ placed l x = true)), sortS ((frm ++ l.flatMap fun it => nmAt l cuts it.id).filter fun x => decide (Rch l cuts frm x ∧ placed l x = false)), sortS_asc _, sortS_asc _, fun x => ?_, fun x => ?_⟩
 all_goals
  rw [sortS_mem, List.mem_filter, decide_eq_true_eq]
  exact ⟨fun h => h.2, fun h => ⟨hmem x h.1, h⟩⟩
end Go.Graft
namespace Go.Graft
open Go.Sym
theorem hd_tl {l : List It} (h : 0 < l.length) : l = l[0]! :: l.drop 1 := by
 cases l with
 | nil => simp at h
 | cons x r => rfl
theorem uni_right {X Y : List It} (hY : 0 < Y.length) (h : X.length = 0 ∨ (0 < X.length ∧ Op.bytesLess X[0]!.id Y[0]!.id = false ∧ Op.bytesLess Y[0]!.id X[0]!.id = true)) : uni X Y = Y[0]! :: uni X (Y.drop 1) ∧ uniC X Y = uniC X (Y.drop 1) := by
 rw [hd_tl hY]
 show uni X (Y[0]! :: Y.drop 1) = Y[0]! :: uni X (Y.drop 1) ∧ uniC X (Y[0]! :: Y.drop 1) = uniC X (Y.drop 1)
 generalize Y[0]! = y at *
 generalize Y.drop 1 = Y' at *
 rcases h with h | ⟨h1, h2, h3⟩
 ·have : X = [] := List.length_eq_zero_iff.1 h
  subst this
  rw [uni, uni, uniC, uniC]; exact ⟨rfl, rfl⟩
 ·rw [hd_tl h1]
  generalize X[0]! = x at *
  generalize X.drop 1 = X' at *
  rw [uni, uniC, h2, h3]; exact ⟨rfl, rfl⟩
theorem uni_both {X Y : List It} (hX : 0 < X.length) (hY : 0 < Y.length) (h2 : Op.bytesLess X[0]!.id Y[0]!.id = false) (h3 : Op.bytesLess Y[0]!.id X[0]!.id = false) : uni X Y = X[0]! :: uni (X.drop 1) (Y.drop 1) ∧ uniC X Y = (!decide (X[0]! = Y[0]!) || uniC (X.drop 1) (Y.drop 1)) := by
 rw [hd_tl hX, hd_tl hY]
 show uni (X[0]! :: X.drop 1) (Y[0]! :: Y.drop 1) = X[0]! :: uni (X.drop 1) (Y.drop 1) ∧ uniC (X[0]! :: X.drop 1) (Y[0]! :: Y.drop 1) = (!decide (X[0]! = Y[0]!) || uniC (X.drop 1) (Y.drop 1))
 generalize X[0]! = x at *
 generalize X.drop 1 = X' at *
 generalize Y[0]! = y at *
 generalize Y.drop 1 = Y' at *
 rw [uni, uniC, h2, h3]; exact ⟨rfl, rfl⟩
def Uni (a b : List It) (X Y F : List It) (c : Bool) : Prop := F ++ uni X Y = uni a b ∧ (c || uniC X Y) = uniC a b ∧ F.length + X.length + Y.length ≤ a.length + b.length
theorem Uni.zero (a b : List It) : Uni a b a b [] false := ⟨rfl, rfl, by simp⟩
theorem Uni.right {a b X Y F : List It} {c : Bool} (h : Uni a b X Y F c) (hY : 0 < Y.length) (h1 : X.length = 0 ∨ (0 < X.length ∧ Op.bytesLess X[0]!.id Y[0]!.id = false ∧ Op.bytesLess Y[0]!.id X[0]!.id = true)) : Uni a b X (Y.drop 1) (F ++ [Y[0]!]) c := by
 obtain ⟨g1, g2, g3⟩ := h
 obtain ⟨k1, k2⟩ := uni_right hY h1
 refine ⟨by rw [← g1, k1]; simp, by rw [← g2, k2], by simp only [List.length_append, List.length_singleton, List.length_drop]; omega⟩
theorem Uni.both {a b X Y F : List It} {c : Bool} (h : Uni a b X Y F c) (hX : 0 < X.length) (hY : 0 < Y.length) (h2 : Op.bytesLess X[0]!.id Y[0]!.id = false) (h3 : Op.bytesLess Y[0]!.id X[0]!.id = false) : Uni a b (X.drop 1) (Y.drop 1) (F ++ [X[0]!]) (c || !decide (X[0]! = Y[0]!)) := by
 obtain ⟨g1, g2, g3⟩ := h
 obtain ⟨k1, k2⟩ := uni_both hX hY h2 h3
 refine ⟨by rw [← g1, k1]; simp, by rw [← g2, k2, Bool.or_assoc], by simp only [List.length_append, List.length_singleton, List.length_drop]; omega⟩
theorem Uni.done {a b F : List It} {c : Bool} (h : Uni a b [] [] F c) : uni a b = F ∧ uniC a b = c := by
 obtain ⟨g1, g2, _⟩ := h
 rw [uni] at g1
 rw [uniC, Bool.or_false] at g2
 exact ⟨by simpa using g1.symm, g2.symm⟩
end Go.Graft
namespace Go.Graft
open Go.Sym
def goodIt (x : It) : Prop := wholeE x.kind x.body = 0 ∧ objId x.kind x.body = x.id
def ascI (l : List It) : Prop := asc (l.map It.id)
theorem right_iff (l : List It) : rightSt l = true ↔ (l.length : Int) ≤ 65536 ∧ ascI l ∧ ∀ x ∈ l, goodIt x := by
 constructor
 ·intro h
  rw [rightSt, Bool.and_eq_true, decide_eq_true_eq, List.all_eq_true] at h
  have hb : ∀ i, i < l.length → itemBad l i = false := fun i hi => by simpa using h.2 i (List.mem_range.2 hi)
  have hg : ∀ i, i < l.length → goodIt l[i]! ∧ (0 < i → bl l[i - 1]!.id l[i]!.id = true) := fun i hi => by
   have := hb i hi
   simp only [itemBad, Bool.or_eq_false_iff, Bool.and_eq_false_iff, decide_eq_false_iff_not, Bool.not_eq_false', decide_eq_true_eq] at this
   exact ⟨⟨this.1.2, this.2⟩, fun h0 => this.1.1.resolve_left (by omega)⟩
  refine ⟨h.1, ?_, fun x hx => ?_⟩
  ·have key : ∀ (d i : Nat), i + d + 1 < l.length → bl l[i]!.id l[i + d + 1]!.id = true := by
    intro d
    induction d with
    | zero => intro i hi; exact (hg (i + 1) hi).2 (by omega)
    | succ d ih =>
     intro i hi
     have h1 := ih i (by omega)
     have h2 := (hg (i + (d + 1) + 1) hi).2 (by omega)
     rw [show i + (d + 1) + 1 - 1 = i + d + 1 by omega] at h2
     exact bl_trans h1 h2
   rw [ascI, asc, List.pairwise_iff_getElem]
   intro i j hi hj hij
   rw [List.length_map] at hi hj
   rw [List.getElem_map, List.getElem_map]
   have := key (j - i - 1) i (by omega)
   rw [show i + (j - i - 1) + 1 = j by omega, getElem!_pos l i hi, getElem!_pos l j hj] at this
   exact this
  ·obtain ⟨i, hi, rfl⟩ := List.mem_iff_getElem.1 hx
   have := (hg i hi).1
   rwa [getElem!_pos l i hi] at this
 ·rintro ⟨h1, h2, h3⟩
  rw [rightSt, Bool.and_eq_true, decide_eq_true_eq, List.all_eq_true]
  refine ⟨h1, fun i hi => ?_⟩
  have hi := List.mem_range.1 hi
  have hg := h3 _ (bang_mem hi)
  have ha : decide (0 < (i : Int)) = false ∨ bl l[i - 1]!.id l[i]!.id = true := by
   cases i with
   | zero => exact .inl rfl
   | succ i =>
    right
    rw [ascI, asc, List.pairwise_iff_getElem] at h2
    have := h2 i (i + 1) (by rw [List.length_map]; omega) (by rw [List.length_map]; omega) (by omega)
    rw [List.getElem_map, List.getElem_map] at this
    rw [show i + 1 - 1 = i by omega, getElem!_pos l i (by omega), getElem!_pos l (i + 1) hi]
    exact this
  rw [Bool.not_eq_true']
  simp only [itemBad, Bool.or_eq_false_iff, Bool.and_eq_false_iff, Bool.not_eq_false', decide_eq_true_eq]
  exact ⟨⟨ha, hg.1⟩, hg.2⟩
end Go.Graft
namespace Go.Graft
open Go.Sym
theorem seenL_mem (l : List Str) (x : Str) : x ∈ (seenL l).1 ↔ x ∈ l := by
 have key : ∀ i, i ≤ l.length → (x ∈ (seenN l i).1 ↔ x ∈ l.take i) := by
  intro i
  induction i with
  | zero => intro _; simp [seenN]
  | succ i ih =>
   intro hi
   rw [seenN, mem_mkeys, ih (by omega), take_snoc l i (by omega), List.mem_append, List.mem_singleton]
   exact Or.comm
 rw [seenL, key _ (Nat.le_refl _), List.take_length]
theorem mkeys_nodup {l : List Str} (x : Str) (h : l.Nodup) : (mkeys l x).Nodup := by
 rw [mkeys]
 split
 ·exact h
 ·rename_i hk
  have := kidx_none.1 hk
  rw [List.nodup_append]
  exact ⟨h, by simp, by intro a ha b hb; rw [List.mem_singleton] at hb; subst hb; intro e; subst e; exact this ha⟩
theorem seenL_nodup (l : List Str) : (seenL l).1.Nodup := by
 have key : ∀ i, (seenN l i).1.Nodup := by
  intro i
  induction i with
  | zero => exact List.nodup_nil
  | succ i ih => rw [seenN]; exact mkeys_nodup _ ih
 exact key _
def rdE (l : List It) (id : Str) : Int := if placed l id = false then 171 else if l[place l id]!.kind ≠ 3 then 140 else (comP l[place l id]!.body).1
def rdP (l : List It) (cuts : List Str) (id : Str) : List Str := if rdE l id ≠ 0 then [] else if hasS cuts id = true then [] else (comP l[place l id]!.body).2.pars
theorem rdP_len (l : List It) (cuts : List Str) (id : Str) (hb : ∀ x ∈ l, x.body.length ≤ 3000) : (rdP l cuts id).length ≤ 3000 := by
 rw [rdP]
 split
 ·simp
 ·rename_i h
  split
  ·simp
  ·have hp : placed l id = true := by
    cases hp : placed l id with
    | true => rfl
    | false => rw [rdE, hp, if_pos rfl] at h; simp at h
   have := comR_len l[place l id]!.body
   rw [com_same]
   exact Nat.le_trans this (hb _ (bang_mem (placed_lt hp).1))
theorem rdE_placed {l : List It} {id : Str} (h : rdE l id = 0) : placed l id = true := by
 cases hp : placed l id with
 | true => rfl
 | false => rw [rdE, hp, if_pos rfl] at h; simp at h
def errF (l : List It) : List Str → Int
 | [] => 0
 | x :: r => if rdE l x ≠ 0 then rdE l x else errF l r
theorem errF_app (l : List It) : ∀ a b, errF l a = 0 → errF l (a ++ b) = errF l b
 | [], _, _ => rfl
 | x :: r, b, h => by
  rw [errF] at h
  split at h
  ·rename_i hx; exact absurd h hx
  ·rename_i hx; rw [List.cons_append, errF, if_neg hx, errF_app l r b h]
theorem errF_bad (l : List It) {a : List Str} {x : Str} (b : List Str) (h : errF l a = 0) (hx : rdE l x ≠ 0) : errF l (a ++ x :: b) = rdE l x := by
 rw [errF_app l a _ h, errF, if_pos hx]
theorem errF_zero (l : List It) : ∀ {a : List Str}, errF l a = 0 ↔ ∀ x ∈ a, rdE l x = 0
 | [] => by simp [errF]
 | x :: r => by
  rw [errF]
  by_cases h : rdE l x = 0
  ·rw [if_neg (by simp [h]), errF_zero l (a := r)]; simp [h]
  ·rw [if_pos h]; simp [h]
def flatP (l : List It) (cuts : List Str) (a : List Str) : List Str := a.flatMap (rdP l cuts)
def nextR (l : List It) (cuts level met : List Str) : List Str := sortS ((flatP l cuts level).filter fun x => !hasS met x)
def endsR (l : List It) (cuts level : List Str) : List Str := sortS (level.filter fun x => !(rdP l cuts x).isEmpty)
def depR (l : List It) (cuts : List Str) : Nat → List Str → List Str → List Str × List Str × Int
 | 0, _, met => (met, [], 0)
 | r + 1, level, met => if level = [] then (met, [], 0) else if errF l level ≠ 0 then ([], [], errF l level) else if r = 0 then (sortS (met ++ level), endsR l cuts level, 0) else depR l cuts r (nextR l cuts level (sortS (met ++ level))) (sortS (met ++ level))
theorem sortS_uniq {a b : List Str} (h : ∀ x, x ∈ a ↔ x ∈ b) : sortS a = sortS b := asc_unique (sortS_asc a) (sortS_asc b) fun x => by rw [sortS_mem, sortS_mem, h]
theorem asc_filter {l : List Str} (h : asc l) (q : Str → Bool) : asc (l.filter q) := List.Pairwise.filter q h
def fresh (S f : List Str) : List Str := f.filter fun x => !hasS S x
theorem depR_next {l : List It} {cuts : List Str} {r : Nat} {f S S' N f' : List Str} (hS : ∀ x, x ∈ S' ↔ x ∈ S ∨ x ∈ fresh S f) (hN : ∀ x, x ∈ N ↔ x ∈ flatP l cuts (fresh S f)) (hf : asc f') (hf' : ∀ x, x ∈ f' ↔ x ∈ N) (he : errF l (fresh S f) = 0) (hne : fresh S f ≠ []) (hr : r ≠ 0) :
  depR l cuts (r + 1) (fresh S f) (sortS S) = depR l cuts r (fresh S' f') (sortS S') := by
 have h1 : sortS (sortS S ++ fresh S f) = sortS S' := sortS_uniq fun x => by rw [List.mem_append, sortS_mem, hS]
 rw [depR, if_neg hne, if_neg (by simp [he]), if_neg hr, h1]
 congr 1
 refine asc_unique (by rw [nextR]; exact sortS_asc _) (asc_filter hf _) fun x => ?_
 rw [nextR, sortS_mem, List.mem_filter, show fresh S' f' = f'.filter fun x => !hasS S' x from rfl, List.mem_filter, hf' x, hN x]
 have : hasS (sortS S') x = hasS S' x := by rw [Bool.eq_iff_iff, hasS_iff, hasS_iff, sortS_mem]
 rw [this]
theorem depR_none {l : List It} {cuts : List Str} {r : Nat} {f S : List Str} (h : fresh S f = []) : depR l cuts r (fresh S f) (sortS S) = (sortS S, [], 0) := by
 cases r with
 | zero => rfl
 | succ r => rw [depR, if_pos h]
structure Dep where
 S : List Str
 C : List Str
 N : List Str
structure DepI (l : List It) (cuts : List Str) (last : Bool) (f : List Str) (S C : List Str) (i : Nat) (d : Dep) : Prop where
 s : ∀ x, x ∈ d.S ↔ x ∈ S ∨ x ∈ fresh S (f.take i)
 c : ∀ x, x ∈ d.C ↔ x ∈ C ∨ (last = true ∧ x ∈ fresh S (f.take i) ∧ rdP l cuts x ≠ [])
 n : ∀ x, x ∈ d.N ↔ x ∈ flatP l cuts (fresh S (f.take i))
 e : errF l (fresh S (f.take i)) = 0
 nd : d.S.Nodup
 cnd : d.C.Nodup
 csub : ∀ x ∈ d.C, x ∈ d.S
theorem DepI.zero {l : List It} {cuts : List Str} {last : Bool} {f S C : List Str} (h : S.Nodup) (hc : C.Nodup) (hcs : ∀ x ∈ C, x ∈ S) : DepI l cuts last f S C 0 ⟨S, C, []⟩ :=
 ⟨by simp [fresh], by simp [fresh], by simp [fresh, flatP], rfl, h, hc, hcs⟩
theorem fresh_snoc (S f : List Str) {i : Nat} (h : i < f.length) : fresh S (f.take (i + 1)) = fresh S (f.take i) ++ if hasS S f[i]! = true then [] else [f[i]!] := by
 rw [fresh, fresh, take_snoc f i h, List.filter_append]
 congr 1
 split
 ·rename_i hx; rw [List.filter_cons_of_neg (by rw [hx]; simp)]; rfl
 ·rename_i hx; rw [List.filter_cons_of_pos (by simpa using hx)]; rfl
theorem DepI.old {l : List It} {cuts : List Str} {last : Bool} {f S C : List Str} {i : Nat} {d : Dep} (h : DepI l cuts last f S C i d) (hi : i < f.length) (hx : hasS d.S f[i]! = true) : DepI l cuts last f S C (i + 1) d := by
 have hx2 := (h.s _).1 ((hasS_iff _ _).1 hx)
 have hm : ∀ x, x ∈ fresh S (f.take (i + 1)) ↔ x ∈ fresh S (f.take i) := fun x => by
  rw [fresh_snoc S f hi, List.mem_append]
  refine ⟨fun k => k.elim id fun k => ?_, .inl⟩
  split at k
  ·simp at k
  ·rename_i hn
   rw [List.mem_singleton] at k
   subst k
   exact hx2.resolve_left fun k => hn ((hasS_iff _ _).2 k)
 refine ⟨fun x => by rw [h.s, hm], fun x => by rw [h.c, hm], fun x => ?_, ?_, h.nd, h.cnd, h.csub⟩
 ·rw [h.n, flatP, flatP, List.mem_flatMap, List.mem_flatMap]
  exact exists_congr fun a => by rw [hm]
 ·rw [errF_zero]
  exact fun x hx => (errF_zero l).1 h.e x ((hm x).1 hx)
theorem DepI.new {l : List It} {cuts : List Str} {last : Bool} {f S C : List Str} {i : Nat} {d : Dep} (h : DepI l cuts last f S C i d) (hi : i < f.length) (hx : hasS d.S f[i]! = false) (he : rdE l f[i]! = 0) : DepI l cuts last f S C (i + 1) ⟨d.S ++ [f[i]!], if (last && !(rdP l cuts f[i]!).isEmpty) = true then d.C ++ [f[i]!] else d.C, d.N ++ rdP l cuts f[i]!⟩ := by
 have hx1 : f[i]! ∉ d.S := fun k => by rw [(hasS_iff _ _).2 k] at hx; simp at hx
 have hxS : hasS S f[i]! = false := by
  cases hq : hasS S f[i]! with
  | false => rfl
  | true => exact absurd ((h.s _).2 (.inl ((hasS_iff _ _).1 hq))) hx1
 have hfr : fresh S (f.take (i + 1)) = fresh S (f.take i) ++ [f[i]!] := by rw [fresh_snoc S f hi, hxS]; rfl
 have hm : ∀ x, x ∈ fresh S (f.take (i + 1)) ↔ x ∈ fresh S (f.take i) ∨ x = f[i]! := fun x => by rw [hfr, List.mem_append, List.mem_singleton]
 have hnd : ∀ {X : List Str}, X.Nodup → f[i]! ∉ X → (X ++ [f[i]!]).Nodup := fun hX hn => by
  rw [List.nodup_append]
  exact ⟨hX, by simp, by intro a ha b hb; rw [List.mem_singleton] at hb; subst hb; intro e; subst e; exact hn ha⟩
 refine ⟨fun x => ?_, fun x => ?_, fun x => ?_, ?_, hnd h.nd hx1, ?_, fun x hxc => ?_⟩
 ·simp only [List.mem_append, List.mem_singleton]; rw [h.s, hm, or_assoc]
 ·dsimp only
  split
  ·rename_i hl
   rw [Bool.and_eq_true, Bool.not_eq_true', List.isEmpty_eq_false_iff] at hl
   rw [List.mem_append, List.mem_singleton, h.c, hm]
   constructor
   ·rintro ((k | ⟨k1, k2, k3⟩) | rfl)
    ·exact .inl k
    ·exact .inr ⟨k1, .inl k2, k3⟩
    ·exact .inr ⟨hl.1, .inr rfl, hl.2⟩
   ·rintro (k | ⟨k1, k2 | rfl, k3⟩)
    ·exact .inl (.inl k)
    ·exact .inl (.inr ⟨k1, k2, k3⟩)
    ·exact .inr rfl
  ·rename_i hl
   rw [h.c, hm]
   constructor
   ·rintro (k | ⟨k1, k2, k3⟩)
    ·exact .inl k
    ·exact .inr ⟨k1, .inl k2, k3⟩
   ·rintro (k | ⟨k1, k2 | rfl, k3⟩)
    ·exact .inl k
    ·exact .inr ⟨k1, k2, k3⟩
    ·refine absurd ?_ hl
     rw [Bool.and_eq_true, Bool.not_eq_true', List.isEmpty_eq_false_iff]
     exact ⟨k1, k3⟩
 ·dsimp only
  rw [List.mem_append, h.n, hfr, flatP, flatP, List.flatMap_append, List.mem_append]
  simp
 ·rw [hfr, errF_app l _ _ h.e, errF, if_neg (fun k => k he)]; rfl
 ·dsimp only
  split
  ·exact hnd h.cnd fun k => hx1 (h.csub _ k)
  ·exact h.cnd
 ·dsimp only at hxc ⊢
  rw [List.mem_append, List.mem_singleton]
  split at hxc
  ·rw [List.mem_append, List.mem_singleton] at hxc
   exact hxc.imp (h.csub x) id
  ·exact .inl (h.csub x hxc)
theorem DepI.bad {l : List It} {cuts : List Str} {last : Bool} {f S C : List Str} {i : Nat} {d : Dep} (h : DepI l cuts last f S C i d) (hi : i < f.length) (hx : hasS d.S f[i]! = false) (he : rdE l f[i]! ≠ 0) : errF l (fresh S f) = rdE l f[i]! := by
 have hx1 : f[i]! ∉ d.S := fun k => by rw [(hasS_iff _ _).2 k] at hx; simp at hx
 have hxS : hasS S f[i]! = false := by
  cases hq : hasS S f[i]! with
  | false => rfl
  | true => exact absurd ((h.s _).2 (.inl ((hasS_iff _ _).1 hq))) hx1
 have e1 : fresh S f = fresh S (f.take i) ++ f[i]! :: fresh S (f.drop (i + 1)) := by
  conv => lhs; rw [← List.take_append_drop (i + 1) f]
  rw [fresh, List.filter_append]
  have := fresh_snoc S f hi
  rw [hxS] at this
  rw [fresh] at this
  rw [this, List.append_assoc]; rfl
 rw [e1, errF_bad l _ h.e he]
end Go.Graft
namespace Go.Sym
open Go.RowKit
section
variable {P : Program} {T : Tbl} {fr : Fr} {S S' : St} {L : LMap} {a : Act} {w : World} {γ : Bool}
variable {dst : Option Tmp} {ty : Nat} {pos : String} {aft : Array Edge} {g : Option (Nat × Bool)}
theorem bytesWorld_heap (w : World) (e : TypeId) (s : ByteArray) : (Lib.bytesWorld w e s).os = w.os ∧ (Lib.bytesWorld w e s).tape = w.tape ∧ (Lib.bytesWorld w e s).output = w.output := by
 refine ⟨?_, ?_, ?_⟩ <;> simp [Lib.bytesWorld, World.freeze, World.alloc, World.drew, -World.alloc_eq, -World.drew_eq]
theorem Frame0.grow {fr : Fr} {w w' : World} (h : Frame0 fr w) (hp : ∀ p ∈ fr.par, p.1 < fr.w0.heap.size) (h1 : w'.os = w.os) (h2 : w'.tape = w.tape) (h3 : w'.output = w.output) (hsz : w.heap.size ≤ w'.heap.size)
  (hold : ∀ b, b < w.heap.size → w'.heap[b]? = w.heap[b]?) : Frame0 fr w' := by
 refine ⟨h1.trans h.os, h2.trans h.tape, h3.trans h.output, Nat.le_trans h.size hsz, fun b hb hn => ?_, fun p hpm => ?_, fun x hx => ?_, h.gpar⟩
 ·exact (hold b (Nat.lt_of_lt_of_le hb h.size)).trans (h.block b hb hn)
 ·obtain ⟨c, c', e, f, k1, k2, k3⟩ := h.part p hpm
  exact ⟨c, c', e, f, k1, (hold p.1 (Nat.lt_of_lt_of_le (hp p hpm) h.size)).trans k2, k3⟩
 ·obtain ⟨v, k1, k2⟩ := h.glob x hx
  exact ⟨v, (hold x.1 (Nat.lt_of_lt_of_le (h.gpar x hx).1 h.size)).trans k1, k2⟩
structure Grown (w w' : World) : Prop where
 os : w'.os = w.os
 tape : w'.tape = w.tape
 output : w'.output = w.output
 size : w.heap.size ≤ w'.heap.size
 old : ∀ b, b < w.heap.size → w'.heap[b]? = w.heap[b]?
theorem Grown.refl (w : World) : Grown w w := ⟨rfl, rfl, rfl, Nat.le_refl _, fun _ _ => rfl⟩
theorem Grown.trans {w w1 w2 : World} (h : Grown w w1) (k : Grown w1 w2) : Grown w w2 :=
 ⟨k.os.trans h.os, k.tape.trans h.tape, k.output.trans h.output, Nat.le_trans h.size k.size, fun b hb => (k.old b (Nat.lt_of_lt_of_le hb h.size)).trans (h.old b hb)⟩
def Globals (P : Program) [Globs P] (w : World) : Prop := ∀ x ∈ Globs.gl P, ∃ v, w.heap[x.1]? = some v ∧ x.2 v
theorem Ctr.of_calls [Globs P] {f : FuncId} {ps : List PV} {r : PV} {xs : List Value} {y : Value} (hc : callable P f) (hps : ps = xs.map .v) (hr : ∀ w F L, Rep w F L r y)
  (h : ∀ w, Globals P w → Calls P f xs.toArray w fun e w' => e = .returned y ∧ Grown w w') : Ctr P f ps [] r [] [] := by
 refine ⟨hc, fun fr w vals h0 hG hM hv => ?_⟩
 subst hps
 have hvals : ∀ (xs vals : List Value), RepL w (fr.F fr.L0) fr.L0 (xs.map .v) vals → vals = xs := by
  intro xs
  induction xs with
  | nil => intro vals h; cases h; rfl
  | cons x r ih => intro vals h; cases h with | cons h1 h2 => rw [h1.inv_v, ih _ h2]
 rw [hvals xs vals hv]
 refine (h w (fun x hx => hM.frame.glob x (hG ▸ hx))).mono ?_
 rintro e w' ⟨rfl, hg⟩
 have hno : ∀ n l, fr.L0 n = some l → False := fun n l hn => by
  obtain ⟨ob, hob⟩ := hM.dom n l hn
  simp [named, St.obj, look] at hob
 refine ⟨y, fr.L0, rfl, rfl, ⟨fun n ob hn => ?_, fun n l hn => (hno n l hn).elim, fun n n' l l' b hn => (hno n l hn).elim, fun n l b hn => (hno n l hn).elim, fun n l p hn => (hno n l hn).elim, hM.parLt, hM.xLt, ?_, hM.lext⟩, hr _ _ _⟩
 ·simp [named, St.obj, look] at hn
 ·exact hM.frame.grow hM.parLt.1 hg.os hg.tape hg.output hg.size hg.old
end
end Go.Sym
namespace Go.Sym
open Go.RowKit
@[reducible] def wV (x : BitVec 32) : PV := .v (.int .u32 (x.toNat : Int))
theorem oslE {o off l l' n n' : Nat} (h1 : l = l') (h2 : n = n') : PV.osl o off l n = PV.osl o off l' n' := by rw [h1, h2]
theorem arrE {sz : Nat} {b : Bool} {es es' : List PV} (h : es = es') : SObj.arr sz b es = SObj.arr sz b es' := by rw [h]
def isInt (ob : Obj) : Prop := ∃ m cs e f, ob = .cells cs e f ∧ cs[0]? = some (.int .i64 m)
def rowIs (zs : List Value) (ob : Obj) : Prop := ∃ e f, ob = .cells zs.toArray e f
section
variable {T : Tbl} {S : St} {t : TypeId}
theorem wrap32 (n : Nat) : IntKind.wrap .u32 (n : Int) = ((BitVec.ofNat 32 n).toNat : Int) := by
 simp [IntKind.wrap, IntKind.bits, IntKind.signed]
theorem bit32 (op : BinOp) (x y : BitVec 32) : bitOp op .u32 (x.toNat : Int) (y.toNat : Int) = (((match op with | .and => x &&& y | .or => x ||| y | .xor => x ^^^ y | _ => x &&& ~~~y) : BitVec 32).toNat : Int) := by
 have hx : BitVec.ofInt (IntKind.bits .u32) (x.toNat : Int) = x := by simp [IntKind.bits]
 have hy : BitVec.ofInt (IntKind.bits .u32) (y.toNat : Int) = y := by simp [IntKind.bits]
 have hw : ∀ z : BitVec 32, IntKind.wrap .u32 (z.toNat : Int) = (z.toNat : Int) := fun z => by rw [wrap32]; simp
 cases op <;> simp only [bitOp, hx, hy] <;> exact hw _
theorem binW_add {a b : BitVec 32} : BinR T S t .add (wV a) (wV b) [] (wV (a + b)) := by
 have h : IntKind.wrap .u32 ((a.toNat : Int) + (b.toNat : Int)) = ((a + b).toNat : Int) := by
  rw [← Int.natCast_add, wrap32]; simp [BitVec.toNat_add]
 show BinR T S t .add _ _ [] (.v (.int .u32 ((a + b).toNat : Int)))
 rw [← h]; exact .addI
theorem binW_and {a b : BitVec 32} : BinR T S t .and (wV a) (wV b) [] (wV (a &&& b)) := by
 show BinR T S t .and _ _ [] (.v (.int .u32 ((a &&& b).toNat : Int)))
 rw [← bit32 .and]; exact .andI
theorem binW_or {a b : BitVec 32} : BinR T S t .or (wV a) (wV b) [] (wV (a ||| b)) := by
 show BinR T S t .or _ _ [] (.v (.int .u32 ((a ||| b).toNat : Int)))
 rw [← bit32 .or]; exact .orI
theorem binW_xor {a b : BitVec 32} : BinR T S t .xor (wV a) (wV b) [] (wV (a ^^^ b)) := by
 show BinR T S t .xor _ _ [] (.v (.int .u32 ((a ^^^ b).toNat : Int)))
 rw [← bit32 .xor]; exact .xorI
theorem shlN (a : BitVec 32) (n : Nat) : IntKind.wrap .u32 ((a.toNat : Int) * 2 ^ (min n 32)) = ((a <<< n).toNat : Int) := by
 have h : ((a.toNat : Int) * 2 ^ (min n 32)) = ((a.toNat * 2 ^ (min n 32) : Nat) : Int) := by simp
 rw [h, wrap32]
 congr 1
 by_cases hn : n ≤ 32
 ·rw [Nat.min_eq_left hn]; simp [BitVec.toNat_shiftLeft, Nat.shiftLeft_eq]
 ·rw [Nat.min_eq_right (by omega)]
  have h1 : a <<< n = 0#32 := by
   apply BitVec.eq_of_toNat_eq
   simp only [BitVec.toNat_shiftLeft, Nat.shiftLeft_eq, BitVec.toNat_ofNat]
   obtain ⟨m, rfl⟩ : ∃ m, n = 32 + m := ⟨n - 32, by omega⟩
   rw [Nat.pow_add, ← Nat.mul_assoc, Nat.mul_right_comm]
   simp
  rw [h1]; simp
theorem shrN (a : BitVec 32) (n : Nat) : Int.fdiv (a.toNat : Int) (2 ^ (min n 32)) = ((a >>> n).toNat : Int) := by
 have h : Int.fdiv (a.toNat : Int) (2 ^ (min n 32)) = ((a.toNat / 2 ^ (min n 32) : Nat) : Int) := by
  rw [Int.fdiv_eq_ediv_of_nonneg _ (by exact_mod_cast Nat.zero_le _)]; simp
 rw [h, BitVec.toNat_ushiftRight, Nat.shiftRight_eq_div_pow]
 congr 1
 by_cases hn : n ≤ 32
 ·rw [Nat.min_eq_left hn]
 ·rw [Nat.min_eq_right (by omega)]
  have := a.isLt
  rw [Nat.div_eq_of_lt this, Nat.div_eq_of_lt (Nat.lt_of_lt_of_le this (Nat.pow_le_pow_right (by omega) (by omega)))]
theorem binW_shlG {a : BitVec 32} {k' : IntKind} {b : Int} (hb : Side (0 ≤ b)) : BinR T S t .shl (wV a) (.v (.int k' b)) [] (wV (a <<< b.toNat)) := by
 show BinR T S t .shl _ _ [] (.v (.int .u32 ((a <<< b.toNat).toNat : Int)))
 rw [← shlN]; exact .shlI hb
theorem binW_shrG {a : BitVec 32} {k' : IntKind} {b : Int} (hb : Side (0 ≤ b)) : BinR T S t .shr (wV a) (.v (.int k' b)) [] (wV (a >>> b.toNat)) := by
 show BinR T S t .shr _ _ [] (.v (.int .u32 ((a >>> b.toNat).toNat : Int)))
 rw [← shrN]; exact .shrI hb
theorem binW_shl {a : BitVec 32} {k' : IntKind} {n : Nat} : BinR T S t .shl (wV a) (.v (.int k' (@OfNat.ofNat Int n instOfNat))) [] (wV (a <<< n)) := by
 have h := binW_shlG (T := T) (S := S) (t := t) (a := a) (k' := k') (b := (n : Int)) (Int.natCast_nonneg n)
 exact h
theorem binW_shr {a : BitVec 32} {k' : IntKind} {n : Nat} : BinR T S t .shr (wV a) (.v (.int k' (@OfNat.ofNat Int n instOfNat))) [] (wV (a >>> n)) := by
 have h := binW_shrG (T := T) (S := S) (t := t) (a := a) (k' := k') (b := (n : Int)) (Int.natCast_nonneg n)
 exact h
theorem binW_shrC {a : BitVec 32} {k' : IntKind} {n : Nat} : BinR T S t .shr (wV a) (.v (.int k' (n : Int))) [] (wV (a >>> n)) :=
 binW_shrG (T := T) (S := S) (t := t) (a := a) (k' := k') (b := (n : Int)) (Int.natCast_nonneg n)
theorem convW8 {d : TD} {b : UInt8} : ConvR S d (.int .u32) (.v (.int .u8 (b.toNat : Int))) [] (wV (BitVec.ofNat 32 b.toNat)) := by
 show ConvR S d (.int .u32) _ [] (.v (.int .u32 ((BitVec.ofNat 32 b.toNat).toNat : Int)))
 rw [← wrap32]; exact .int
theorem convW_u8 {d : TD} {x : BitVec 32} : ConvR S d (.int .u8) (wV x) [] (u8V (UInt8.ofNat x.toNat)) := by
 have h : IntKind.wrap .u8 (x.toNat : Int) = ((UInt8.ofNat x.toNat).toNat : Int) := by simp [IntKind.wrap, IntKind.bits, IntKind.signed]
 show ConvR S d (.int .u8) _ [] (.v (.int .u8 ((UInt8.ofNat x.toNat).toNat : Int)))
 rw [← h]; exact .int
end
end Go.Sym
