/- A part of the proof: GVis, GDep, SymZN, SymZO. -/
import Derived.Test.YteailifhgfijgaaGreatDoorPart35
import Derived.Maps.RangeRun
set_option linter.unusedVariables false
set_option linter.unusedSimpArgs false
namespace Go.Graft
open Go.Sym
inductive RchC (l : List It) (cuts frm : List Str) : Str → Prop
 | start {x : Str} : x ∈ frm → RchC l cuts frm x
 | step {x y : Str} : RchC l cuts frm x → y ∈ rdP l cuts x → RchC l cuts frm y
theorem RchC.lift {l : List It} {cuts a b : List Str} (h : ∀ x ∈ a, RchC l cuts b x) {x : Str} (hx : RchC l cuts a x) : RchC l cuts b x := by
 induction hx with
 | start hx => exact h _ hx
 | step _ hy ih => exact .step ih hy
def visA (f : List Str → Str → List Str × Int) : List Str → List Str → List Str × Int
 | met, [] => (met, 0)
 | met, y :: r => if (f met y).2 ≠ 0 then f met y else visA f (f met y).1 r
def vis (l : List It) (cuts : List Str) : Nat → List Str → Str → List Str × Int
 | 0, met, x => if hasS met x = true then (met, 0) else (met, rdE l x)
 | n + 1, met, x => if hasS met x = true then (met, 0) else if rdE l x ≠ 0 then (met, rdE l x) else visA (vis l cuts n) (met ++ [x]) (rdP l cuts x)
theorem visA_stop (f : List Str → Str → List Str × Int) : ∀ (a b met : List Str), (visA f met a).2 ≠ 0 → visA f met (a ++ b) = visA f met a
 | [], b, met, h => absurd rfl h
 | y :: r, b, met, h => by
  rw [List.cons_append, visA, visA]
  rw [visA] at h
  split
  ·rfl
  ·rename_i hy
   rw [if_neg hy] at h
   exact visA_stop f r b _ h
theorem visA_go (f : List Str → Str → List Str × Int) : ∀ (a b met : List Str), (visA f met a).2 = 0 → visA f met (a ++ b) = visA f (visA f met a).1 b
 | [], b, met, h => rfl
 | y :: r, b, met, h => by
  rw [List.cons_append, visA, visA]
  rw [visA] at h
  split
  ·rename_i hy
   rw [if_pos hy] at h
   exact absurd h hy
  ·rename_i hy
   rw [if_neg hy] at h
   exact visA_go f r b _ h
theorem visA_one (f : List Str → Str → List Str × Int) (met : List Str) (y : Str) : visA f met [y] = f met y := by
 rw [visA]
 split
 ·rfl
 ·rename_i h
  rw [visA]
  exact Prod.ext rfl (by simpa using (Decidable.not_not.1 h).symm)
theorem visA_snoc (f : List Str → Str → List Str × Int) (ps met : List Str) {j : Nat} (hj : j < ps.length) (h : (visA f met (ps.take j)).2 = 0) : visA f met (ps.take (j + 1)) = f (visA f met (ps.take j)).1 ps[j]! := by
 rw [take_snoc ps j hj, visA_go f _ _ _ h, visA_one]
theorem visA_bad (f : List Str → Str → List Str × Int) (ps met : List Str) {j : Nat} (hj : j < ps.length) (h : (visA f met (ps.take j)).2 = 0) (hb : (f (visA f met (ps.take j)).1 ps[j]!).2 ≠ 0) : visA f met ps = f (visA f met (ps.take j)).1 ps[j]! := by
 have h1 := visA_snoc f ps met hj h
 rw [← h1] at hb ⊢
 conv => lhs; rw [← List.take_append_drop (j + 1) ps]
 exact visA_stop f _ _ _ hb
def todoN (l : List It) (met : List Str) : Nat := (l.filter fun it => !hasS met it.id).length
theorem todoN_mono {l : List It} {met met' : List Str} (h : ∀ x ∈ met, x ∈ met') : todoN l met' ≤ todoN l met := by
 induction l with
 | nil => exact Nat.le_refl _
 | cons it r ih =>
  simp only [todoN, List.filter_cons] at ih ⊢
  by_cases h1 : hasS met it.id = true
  ·have h2 : hasS met' it.id = true := (hasS_iff _ _).2 (h _ ((hasS_iff _ _).1 h1))
   rw [h1, h2]; exact ih
  ·have h1 : hasS met it.id = false := by simpa using h1
   rw [h1]
   cases hasS met' it.id
   ·simp only [Bool.not_false, if_true, List.length_cons]; omega
   ·simp only [Bool.not_true, Bool.not_false, if_true, Bool.false_eq_true, if_false, List.length_cons]; omega
theorem todoN_new {l : List It} {met : List Str} {x : Str} (hx : x ∉ met) (hm : ∃ it ∈ l, it.id = x) : todoN l (met ++ [x]) + 1 ≤ todoN l met := by
 induction l with
 | nil => obtain ⟨_, h, _⟩ := hm; simp at h
 | cons it r ih =>
  have hmono := todoN_mono (l := r) (met := met) (met' := met ++ [x]) (fun y hy => List.mem_append_left _ hy)
  simp only [todoN, List.filter_cons] at ih hmono ⊢
  by_cases e : it.id = x
  ·have h1 : hasS met it.id = false := by rw [e]; cases h : hasS met x with | false => rfl | true => exact absurd ((hasS_iff _ _).1 h) hx
   have h2 : hasS (met ++ [x]) it.id = true := (hasS_iff _ _).2 (by rw [e]; simp)
   rw [h1, h2]
   simp only [Bool.not_true, Bool.not_false, if_true, Bool.false_eq_true, if_false, List.length_cons]
   omega
  ·have hr : ∃ it ∈ r, it.id = x := by
    obtain ⟨it', h1, h2⟩ := hm
    rcases List.mem_cons.1 h1 with rfl | h1
    ·exact absurd h2 e
    ·exact ⟨it', h1, h2⟩
   have h3 : hasS (met ++ [x]) it.id = hasS met it.id := by
    rw [Bool.eq_iff_iff, hasS_iff, hasS_iff, List.mem_append, List.mem_singleton]
    exact ⟨fun h => h.resolve_right e, .inl⟩
   rw [h3]
   have := ih hr
   cases hasS met it.id
   ·simp only [Bool.not_false, if_true, List.length_cons]; omega
   ·simpa using this
theorem todoN_zero {l : List It} {met : List Str} {x : Str} (h : todoN l met = 0) (hp : placed l x = true) : hasS met x = true := by
 obtain ⟨it, h1, rfl⟩ := placed_mem hp
 rw [todoN, List.length_eq_zero_iff, List.filter_eq_nil_iff] at h
 simpa using h it h1
theorem todoN_le (l : List It) (met : List Str) : todoN l met ≤ l.length := List.length_filter_le _ _
structure VisP (l : List It) (cuts met xs : List Str) (r : List Str × Int) : Prop where
 nd : r.1.Nodup
 sub : ∀ y ∈ met, y ∈ r.1
 rch : ∀ y ∈ r.1, y ∈ met ∨ (RchC l cuts xs y ∧ rdE l y = 0)
 ok : r.2 = 0 → (∀ x ∈ xs, x ∈ r.1) ∧ ∀ y ∈ r.1, y ∉ met → ∀ p ∈ rdP l cuts y, p ∈ r.1
 bad : r.2 ≠ 0 → ∃ y, RchC l cuts xs y ∧ rdE l y = r.2
theorem visA_P {l : List It} {cuts : List Str} {n : Nat} (hf : ∀ met x, met.Nodup → todoN l met ≤ n → VisP l cuts met [x] (vis l cuts n met x)) : ∀ (xs met : List Str), met.Nodup → todoN l met ≤ n → VisP l cuts met xs (visA (vis l cuts n) met xs)
 | [], met, hn, ht => ⟨hn, fun y h => h, fun y h => .inl h, fun _ => ⟨by simp, fun y h1 h2 => absurd h1 h2⟩, fun h => absurd rfl h⟩
 | x :: r, met, hn, ht => by
  have P1 := hf met x hn ht
  have hx : ∀ y ∈ [x], RchC l cuts (x :: r) y := fun y hy => by rw [List.mem_singleton] at hy; subst hy; exact .start List.mem_cons_self
  rw [visA]
  split
  ·rename_i h
   exact ⟨P1.nd, P1.sub, fun y hy => (P1.rch y hy).imp id fun k => ⟨k.1.lift hx, k.2⟩, fun h0 => absurd h0 h, fun h0 => by obtain ⟨y, k1, k2⟩ := P1.bad h0; exact ⟨y, k1.lift hx, k2⟩⟩
  ·rename_i h
   have h : (vis l cuts n met x).2 = 0 := Decidable.not_not.1 h
   have P2 := visA_P hf r (vis l cuts n met x).1 P1.nd (Nat.le_trans (todoN_mono P1.sub) ht)
   have hr : ∀ y ∈ r, RchC l cuts (x :: r) y := fun y hy => .start (List.mem_cons_of_mem _ hy)
   refine ⟨P2.nd, fun y hy => P2.sub y (P1.sub y hy), fun y hy => ?_, fun h0 => ⟨fun y hy => ?_, fun y hy hm p hp => ?_⟩, fun h0 => ?_⟩
   ·rcases P2.rch y hy with k | k
    ·exact (P1.rch y k).imp id fun k => ⟨k.1.lift hx, k.2⟩
    ·exact .inr ⟨k.1.lift hr, k.2⟩
   ·rcases List.mem_cons.1 hy with rfl | hy
    ·exact P2.sub _ ((P1.ok h).1 _ (by simp))
    ·exact (P2.ok h0).1 y hy
   ·by_cases hq : y ∈ (vis l cuts n met x).1
    ·exact P2.sub _ ((P1.ok h).2 y hq hm p hp)
    ·exact (P2.ok h0).2 y hy hq p hp
   ·obtain ⟨y, k1, k2⟩ := P2.bad h0
    exact ⟨y, k1.lift hr, k2⟩
theorem vis_P (l : List It) (cuts : List Str) : ∀ (n : Nat) (met : List Str) (x : Str), met.Nodup → todoN l met ≤ n → VisP l cuts met [x] (vis l cuts n met x) := by
 intro n
 induction n with
 | zero =>
  intro met x hn ht
  rw [vis]
  split
  ·rename_i h
   exact ⟨hn, fun y h => h, fun y h => .inl h, fun _ => ⟨fun y hy => by rw [List.mem_singleton] at hy; subst hy; exact (hasS_iff _ _).1 h, fun y h1 h2 => absurd h1 h2⟩, fun h => absurd rfl h⟩
  ·rename_i h
   refine ⟨hn, fun y h => h, fun y h => .inl h, fun h0 => ?_, fun h0 => ⟨x, .start (by simp), rfl⟩⟩
   exact absurd (todoN_zero (by omega) (rdE_placed h0)) h
 | succ n ih =>
  intro met x hn ht
  rw [vis]
  split
  ·rename_i h
   exact ⟨hn, fun y h => h, fun y h => .inl h, fun _ => ⟨fun y hy => by rw [List.mem_singleton] at hy; subst hy; exact (hasS_iff _ _).1 h, fun y h1 h2 => absurd h1 h2⟩, fun h => absurd rfl h⟩
  rename_i h
  split
  ·rename_i he
   exact ⟨hn, fun y h => h, fun y h => .inl h, fun h0 => absurd h0 he, fun _ => ⟨x, .start (by simp), rfl⟩⟩
  ·rename_i he
   have he : rdE l x = 0 := Decidable.not_not.1 he
   have hx : x ∉ met := fun k => h ((hasS_iff _ _).2 k)
   have hnd : (met ++ [x]).Nodup := by
    rw [List.nodup_append]
    exact ⟨hn, by simp, by intro a ha b hb; rw [List.mem_singleton] at hb; subst hb; intro e; subst e; exact hx ha⟩
   have hto := todoN_new hx (placed_mem (rdE_placed he))
   have P := visA_P ih (rdP l cuts x) (met ++ [x]) hnd (by omega)
   have hs : RchC l cuts [x] x := .start (by simp)
   have hl : ∀ y ∈ rdP l cuts x, RchC l cuts [x] y := fun y hy => .step hs hy
   refine ⟨P.nd, fun y hy => P.sub y (List.mem_append_left _ hy), fun y hy => ?_, fun h0 => ⟨fun y hy => ?_, fun y hy hm p hp => ?_⟩, fun h0 => ?_⟩
   ·rcases P.rch y hy with k | k
    ·rw [List.mem_append, List.mem_singleton] at k
     rcases k with k | rfl
     ·exact .inl k
     ·exact .inr ⟨hs, he⟩
    ·exact .inr ⟨k.1.lift hl, k.2⟩
   ·rw [List.mem_singleton] at hy; subst hy
    exact P.sub _ (by simp)
   ·by_cases e : y = x
    ·subst e; exact (P.ok h0).1 p hp
    ·exact (P.ok h0).2 y hy (by rw [List.mem_append, List.mem_singleton]; exact fun k => k.elim hm e) p hp
   ·obtain ⟨y, k1, k2⟩ := P.bad h0
    exact ⟨y, k1.lift hl, k2⟩
def ancs (l : List It) (cuts frm : List Str) : List Str × Int := visA (vis l cuts l.length) [] frm
theorem ancs_P (l : List It) (cuts frm : List Str) : VisP l cuts [] frm (ancs l cuts frm) := visA_P (vis_P l cuts l.length) frm [] List.nodup_nil (todoN_le _ _)
theorem ancs_ok {l : List It} {cuts frm : List Str} (h : (ancs l cuts frm).2 = 0) (x : Str) : x ∈ (ancs l cuts frm).1 ↔ RchC l cuts frm x := by
 have P := ancs_P l cuts frm
 refine ⟨fun hx => ((P.rch x hx).resolve_left (by simp)).1, fun hx => ?_⟩
 induction hx with
 | start hx => exact (P.ok h).1 _ hx
 | step _ hy ih => exact (P.ok h).2 _ ih (by simp) _ hy
theorem ancs_good {l : List It} {cuts frm : List Str} (h : ∀ x, RchC l cuts frm x → rdE l x = 0) : (ancs l cuts frm).2 = 0 := by
 by_cases h0 : (ancs l cuts frm).2 = 0
 ·exact h0
 ·obtain ⟨y, k1, k2⟩ := (ancs_P l cuts frm).bad h0
  rw [h y k1] at k2
  exact absurd k2.symm h0
theorem ancs_mem {l : List It} {cuts frm : List Str} {x : Str} (h : x ∈ (ancs l cuts frm).1) : rdE l x = 0 := (((ancs_P l cuts frm).rch x h).resolve_left (by simp)).2
end Go.Graft
namespace Go.Graft
open Go.Sym
inductive RchX (l : List It) (cuts C frm : List Str) : Str → Prop
 | start {x : Str} : x ∈ frm → RchX l cuts C frm x
 | step {x y : Str} : RchX l cuts C frm x → x ∉ C → y ∈ rdP l cuts x → RchX l cuts C frm y
theorem RchX.lift {l : List It} {cuts C a b : List Str} (h : ∀ x ∈ a, RchX l cuts C b x) {x : Str} (hx : RchX l cuts C a x) : RchX l cuts C b x := by
 induction hx with
 | start hx => exact h _ hx
 | step _ hc hy ih => exact .step ih hc hy
structure DepF (l : List It) (cuts level met A C : List Str) : Prop where
 sub : ∀ x ∈ met, x ∈ A
 lev : ∀ x ∈ level, x ∈ A
 cut : ∀ x ∈ C, x ∈ A ∧ x ∉ met ∧ rdP l cuts x ≠ []
 clo : ∀ x ∈ A, x ∉ met → rdE l x = 0 ∧ (x ∈ C ∨ ∀ p ∈ rdP l cuts x, p ∈ A)
 rch : ∀ x ∈ A, x ∉ met → RchX l cuts C level x
theorem nextR_iff {l : List It} {cuts level met : List Str} {x : Str} : x ∈ nextR l cuts level met ↔ (∃ y ∈ level, x ∈ rdP l cuts y) ∧ x ∉ met := by
 rw [nextR, sortS_mem, List.mem_filter, flatP, List.mem_flatMap]
 refine and_congr Iff.rfl ?_
 rw [← hasS_iff]
 cases hasS met x <;> simp
theorem dep_facts (l : List It) (cuts : List Str) : ∀ (r : Nat) (level met A C : List Str), depR l cuts (r + 1) level met = (A, C, 0) → (∀ x ∈ level, x ∉ met) → DepF l cuts level met A C := by
 intro r
 induction r with
 | zero =>
  intro level met A C h hd
  rw [depR] at h
  split at h
  ·rename_i hl
   subst hl
   cases h
   exact ⟨fun x h => h, by simp, by simp, fun x h1 h2 => absurd h1 h2, fun x h1 h2 => absurd h1 h2⟩
  split at h
  ·rename_i he
   simp only [Prod.mk.injEq] at h
   exact absurd h.2.2 he
  rename_i he
  have he := (errF_zero l).1 (Decidable.not_not.1 he)
  rw [if_pos rfl] at h
  cases h
  have hA : ∀ x, x ∈ sortS (met ++ level) ↔ x ∈ met ∨ x ∈ level := fun x => by rw [sortS_mem, List.mem_append]
  have hC : ∀ x, x ∈ endsR l cuts level ↔ x ∈ level ∧ rdP l cuts x ≠ [] := fun x => by
   rw [endsR, sortS_mem, List.mem_filter]
   refine and_congr Iff.rfl ?_
   cases rdP l cuts x <;> simp
  refine ⟨fun x h => (hA x).2 (.inl h), fun x h => (hA x).2 (.inr h), fun x h => ?_, fun x h1 h2 => ?_, fun x h1 h2 => .start (((hA x).1 h1).resolve_left h2)⟩
  ·obtain ⟨k1, k2⟩ := (hC x).1 h
   exact ⟨(hA x).2 (.inr k1), hd x k1, k2⟩
  ·have hx := ((hA x).1 h1).resolve_left h2
   refine ⟨he x hx, ?_⟩
   by_cases hp : rdP l cuts x = []
   ·exact .inr (by rw [hp]; simp)
   ·exact .inl ((hC x).2 ⟨hx, hp⟩)
 | succ r ih =>
  intro level met A C h hd
  rw [depR] at h
  split at h
  ·rename_i hl
   subst hl
   cases h
   exact ⟨fun x h => h, by simp, by simp, fun x h1 h2 => absurd h1 h2, fun x h1 h2 => absurd h1 h2⟩
  split at h
  ·rename_i he
   simp only [Prod.mk.injEq] at h
   exact absurd h.2.2 he
  rename_i he
  have he := (errF_zero l).1 (Decidable.not_not.1 he)
  rw [if_neg (by omega)] at h
  have hM : ∀ x, x ∈ sortS (met ++ level) ↔ x ∈ met ∨ x ∈ level := fun x => by rw [sortS_mem, List.mem_append]
  have D := ih _ _ _ _ h (fun x hx => (nextR_iff.1 hx).2)
  refine ⟨fun x h => D.sub x ((hM x).2 (.inl h)), fun x h => D.sub x ((hM x).2 (.inr h)), fun x h => ?_, fun x h1 h2 => ?_, fun x h1 h2 => ?_⟩
  ·obtain ⟨k1, k2, k3⟩ := D.cut x h
   exact ⟨k1, fun k => k2 ((hM x).2 (.inl k)), k3⟩
  ·by_cases hm : x ∈ sortS (met ++ level)
   ·have hx := ((hM x).1 hm).resolve_left h2
    refine ⟨he x hx, .inr fun p hp => ?_⟩
    by_cases hpm : p ∈ sortS (met ++ level)
    ·exact D.sub p hpm
    ·exact D.lev p (nextR_iff.2 ⟨⟨x, hx, hp⟩, hpm⟩)
   ·exact D.clo x h1 hm
  ·by_cases hm : x ∈ sortS (met ++ level)
   ·exact .start (((hM x).1 hm).resolve_left h2)
   ·refine (D.rch x h1 hm).lift fun p hp => ?_
    obtain ⟨⟨y, hy, hyp⟩, _⟩ := nextR_iff.1 hp
    exact .step (.start hy) (fun k => (D.cut y k).2.1 ((hM y).2 (.inr hy))) hyp
theorem dep_err (l : List It) (cuts : List Str) : ∀ (r : Nat) (level met : List Str), (depR l cuts (r + 1) level met).2.2 ≠ 0 → (depR l cuts (r + 2) level met).2.2 ≠ 0 := by
 intro r
 induction r with
 | zero =>
  intro level met h
  rw [depR] at h ⊢
  split at h
  ·exact absurd rfl h
  rename_i hl
  rw [if_neg hl]
  split at h
  ·rename_i he
   rw [if_pos he]; exact he
  ·rw [if_pos rfl] at h; exact absurd rfl h
 | succ r ih =>
  intro level met h
  rw [depR] at h ⊢
  split at h
  ·exact absurd rfl h
  rename_i hl
  rw [if_neg hl]
  split at h
  ·rename_i he
   rw [if_pos he]; exact he
  rename_i he
  rw [if_neg he, if_neg (by omega)]
  rw [if_neg (by omega)] at h
  exact ih _ _ h
theorem dep_bad (l : List It) (cuts : List Str) : ∀ (r : Nat) (level met : List Str), (depR l cuts r level met).2.2 ≠ 0 → (depR l cuts r level met).1 = [] ∧ (depR l cuts r level met).2.1 = [] := by
 intro r
 induction r with
 | zero => intro level met h; exact absurd rfl h
 | succ r ih =>
  intro level met h
  rw [depR] at h ⊢
  split at h
  ·exact absurd rfl h
  rename_i hl
  rw [if_neg hl]
  split at h
  ·rename_i he
   rw [if_pos he]; exact ⟨rfl, rfl⟩
  rename_i he
  rw [if_neg he]
  split at h
  ·exact absurd rfl h
  ·rename_i hr
   rw [if_neg hr]; exact ih _ _ h
theorem dep_sub (l : List It) (cuts : List Str) : ∀ (r : Nat) (level met : List Str), (depR l cuts r level met).2.2 = 0 → ∀ x ∈ met, x ∈ (depR l cuts r level met).1 := by
 intro r
 induction r with
 | zero => intro level met _ x hx; exact hx
 | succ r ih =>
  intro level met h x hx
  rw [depR] at h ⊢
  split at h
  ·rename_i hl; rw [if_pos hl]; exact hx
  rename_i hl
  rw [if_neg hl]
  split at h
  ·rename_i he; exact absurd h he
  rename_i he
  rw [if_neg he]
  split at h
  ·rename_i hr
   rw [if_pos hr]
   rw [sortS_mem, List.mem_append]; exact .inl hx
  ·rename_i hr
   rw [if_neg hr]
   exact ih _ _ h x (by rw [sortS_mem, List.mem_append]; exact .inl hx)
theorem dep_mono (l : List It) (cuts : List Str) : ∀ (r : Nat) (level met : List Str), (depR l cuts (r + 1) level met).2.2 = 0 → (depR l cuts (r + 2) level met).2.2 = 0 → ∀ x ∈ (depR l cuts (r + 1) level met).1, x ∈ (depR l cuts (r + 2) level met).1 := by
 intro r
 induction r with
 | zero =>
  intro level met h1 h2 x hx
  rw [depR] at h1 h2 hx ⊢
  split at h1
  ·rename_i hl; rw [if_pos hl] at hx ⊢; exact hx
  rename_i hl
  rw [if_neg hl] at h2 hx ⊢
  split at h1
  ·rename_i he; exact absurd h1 he
  rename_i he
  rw [if_neg he] at h2 hx ⊢
  rw [if_pos rfl] at hx
  rw [if_neg (by omega)] at h2 ⊢
  exact dep_sub l cuts _ _ _ h2 x hx
 | succ r ih =>
  intro level met h1 h2 x hx
  rw [depR] at h1 h2 hx ⊢
  split at h1
  ·rename_i hl; rw [if_pos hl] at hx ⊢; exact hx
  rename_i hl
  rw [if_neg hl] at h2 hx ⊢
  split at h1
  ·rename_i he; exact absurd h1 he
  rename_i he
  rw [if_neg he] at h2 hx ⊢
  rw [if_neg (by omega)] at h1 h2 hx ⊢
  exact ih _ _ h1 h2 x hx
theorem dep_asc (l : List It) (cuts : List Str) : ∀ (r : Nat) (level met : List Str), asc met → asc (depR l cuts r level met).1 ∧ asc (depR l cuts r level met).2.1 := by
 intro r
 induction r with
 | zero => intro level met h; exact ⟨h, List.Pairwise.nil⟩
 | succ r ih =>
  intro level met h
  rw [depR]
  split
  ·exact ⟨h, List.Pairwise.nil⟩
  split
  ·exact ⟨List.Pairwise.nil, List.Pairwise.nil⟩
  split
  ·exact ⟨sortS_asc _, by rw [endsR]; exact sortS_asc _⟩
  ·exact ih _ _ (sortS_asc _)
theorem depth_walk {l : List It} {cuts cuts' wants A C : List Str} {m : Nat} (h : depR l cuts (m + 1) wants [] = (A, C, 0)) (hc : ∀ x, x ∈ cuts' ↔ x ∈ cuts ∨ x ∈ C) :
  (ancs l cuts' wants).2 = 0 ∧ sortS (ancs l cuts' wants).1 = A ∧ (∀ x ∈ C, x ∈ A ∧ hasS cuts x = false ∧ rdE l x = 0 ∧ rdP l cuts' x = []) := by
 have D := dep_facts l cuts m _ _ _ _ h (by simp)
 have hA := dep_asc l cuts (m + 1) wants [] List.Pairwise.nil
 rw [h] at hA
 have hP : ∀ x, rdP l cuts' x = if x ∈ C then [] else rdP l cuts x := fun x => by
  rw [rdP, rdP]
  by_cases he : rdE l x ≠ 0
  ·rw [if_pos he, if_pos he]; split <;> rfl
  rw [if_neg he, if_neg he]
  by_cases hC : x ∈ C
  ·rw [if_pos hC, if_pos ((hasS_iff _ _).2 ((hc x).2 (.inr hC)))]
  ·rw [if_neg hC]
   have : hasS cuts' x = hasS cuts x := by
    rw [Bool.eq_iff_iff, hasS_iff, hasS_iff, hc]
    exact ⟨fun k => k.resolve_right hC, .inl⟩
   rw [this]
 have hin : ∀ x, RchC l cuts' wants x ↔ x ∈ A := fun x => by
  constructor
  ·intro hx
   induction hx with
   | start hx => exact D.lev _ hx
   | step _ hy ih =>
    rename_i x y _
    rw [hP] at hy
    split at hy
    ·simp at hy
    ·rename_i hC
     exact ((D.clo x ih (by simp)).2.resolve_left hC) y hy
  ·intro hx
   have hx2 := D.rch x hx (by simp)
   clear hx
   induction hx2 with
   | start hx => exact .start hx
   | step _ hC hy ih => exact .step ih (by rw [hP, if_neg hC]; exact hy)
 have hgood : (ancs l cuts' wants).2 = 0 := ancs_good fun x hx => (D.clo x ((hin x).1 hx) (by simp)).1
 refine ⟨hgood, asc_unique (sortS_asc _) hA.1 fun x => ?_, fun x hx => ?_⟩
 ·rw [sortS_mem, ancs_ok hgood, hin]
 ·obtain ⟨k1, _, k3⟩ := D.cut x hx
  refine ⟨k1, ?_, (D.clo x k1 (by simp)).1, by rw [hP, if_pos hx]⟩
  cases hh : hasS cuts x with
  | false => rfl
  | true =>
   refine absurd ?_ k3
   rw [rdP, hh]
   split <;> rfl
end Go.Graft
namespace Go.Sym
open Go.RowKit
section
variable {P : Program} {T : Tbl} {fr : Fr} {S S' : St} {L L' : LMap} {a : Act} {w : World} {F F' : Nat → Prop} {γ : Bool}
variable {dst : Option Nat} {ty : Nat} {pos : String} {aft : Array Edge} {g : Option (Nat × Bool)}
end
end Go.Sym
namespace Go.Sym
open Go.RowKit
open Go.ChangeMaps (setBlock)
section
variable {P : Program} {T : Tbl} {fr : Fr} {S S' : St} {L L' : LMap} {a : Act} {w : World} {F F' : Nat → Prop} {γ : Bool}
variable {dst : Option Nat} {ty : Nat} {pos : String} {aft : Array Edge} {g : Option (Nat × Bool)}
theorem F_range [Globs P] (hT : TOk P T) (hγ : γ = true) {k t kt et : Nat} {x : Operand} {nl : Bool} {ks : List Value} {vs : List PV} {ti : TI} (hx : OpdO γ S x (.mp nl ks vs)) (hl : look T t = some ti) (hd : ti.d = .map kt et) (hk : S.obj k = none) :
  FStep P ⟨some k, .range t x, ty, pos, aft, g⟩ S [k] ⟨.ref k 0, [(k, .iter nl ks vs [])]⟩ := by
 intro fr S' ht hn L a w hR hG Q
 have h1 := hx.rep hγ hR (fun t e => ht t (mem_tmps (x := x) (by simp [Op.operands]) t e))
 have hno := hR.noL ((hn k (by simp)).trans hk)
 have hu := und_map hT hl hd
 have key : ∀ it, (Instr.range t (a.eval x)).run P w = .ok (.pointer (some ⟨w.heap.size, 0, none⟩)) (w.alloc it) → NoCells it → (∀ w' : World, Ext w (fr.F L) w' (fr.F (L.set k (.iter w.heap.size))) → w'.heap[w.heap.size]? = some it → ItAt w' (fr.F (L.set k (.iter w.heap.size))) nl ks vs [] w.heap.size) →
   Oper.wp P ⟨some k, .range t x, ty, pos, aft, g⟩ a w (fun a' w' => ∃ y L', a' = a.put (some k) y ∧ R fr (S'.upd [(k, .iter nl ks vs [])]) L' a w' ∧ Rep w' (fr.F L') L' (.ref k 0) y) Q := by
  intro it hrun hnc hit
  have hnew : (w.alloc it).heap[w.heap.size]? = some it := heap_alloc_new w _
  obtain ⟨k1, _, _⟩ := R.step' hR k (.iter nl ks vs []) (.iter w.heap.size) (hR.mem.frame.alloc it hR.mem.parLt.1) (by simp) (fun b hb _ => Below.heap_alloc _ _ _ hb) (fun l0 h => (hno l0 h).elim)
   (fun b hb => .inr (by simp [Loc.blk] at hb; subst hb; simp)) (fun p hp => by simp [Loc.range] at hp; subst hp; exact .inr ⟨.inr rfl, _, hnew, hnc⟩) (fun hext _ => hit _ hext hnew)
  unfold Oper.wp
  have hr : (execOp a.eval ⟨some k, .range t x, ty, pos, aft, g⟩).run P w = .ok (.value (.pointer (some ⟨w.heap.size, 0, none⟩))) (w.alloc it) := by
   simp only [execOp, Sem.run_bind, hrun, Result.andThen_ok, Sem.run_pure]
  rw [hr, Oper.upon_value]
  exact ⟨_, _, rfl, k1, .ref (l := .iter w.heap.size) (by simp [LMap.set]) rfl ⟨_, rfl⟩⟩
 generalize hv : a.eval x = v at h1 key
 cases h1 with
 | mpNil =>
  refine key (.mapIter none 0 #[] 0) ?_ .iter (fun w' _ hb => ⟨_, .mpNil _, .inl ⟨rfl, hb⟩⟩)
  simp only [Instr.range, Sem.run_bind, run_underlying hu, Result.andThen_ok, Sem.run_pure]
  rfl
 | mp g1 g2 g3 g4 g5 =>
  rename_i b clock es
  have hlen : ks.length = clock := by rw [← g3, g5.1]; simp
  refine key (.mapIter (some b) clock #[] clock) ?_ .iter (fun w' hext hb => ⟨_, (Rep.mp (L := noL) g1 g2 g3 g4 g5).mono hext (LExt.refl _), .inr ⟨b, rfl, by rw [hlen]; exact hb⟩⟩)
  have hg : (getObj b).run P w = .ok (.map es clock) w := by simp [getObj, Sem.run, g1]
  simp only [Instr.range, Sem.run_bind, run_underlying hu, Result.andThen_ok, Sem.run_pure, hg]
  rfl
theorem R.putIter (hR : R fr S L a w) {o : Nat} {nl : Bool} {ks : List Value} {vs : List PV} {seen : List Nat} {b : Nat} {ob it : Obj} (hl : L o = some (.iter b)) (hb : w.heap[b]? = some ob) (hno : NoCells ob) (hit : NoCells it)
  (hat : ∀ w' : World, Ext w (fr.F L) w' (fr.F L) → w'.heap[b]? = some it → ItAt w' (fr.F L) nl ks vs seen b) :
  R fr (S.upd [(o, .iter nl ks vs seen)]) L a (setBlock w b it) := by
 have hs1 : (setBlock w b it).heap[b]? = some it := by
  have := (Array.getElem?_eq_some_iff.1 hb).1
  simp [setBlock, this]
 have hs2 : ∀ b', b' ≠ b → (setBlock w b it).heap[b']? = w.heap[b']? := fun b' h => by simp only [setBlock]; rw [Array.getElem?_setIfInBounds_ne (Ne.symm h)]
 have hnew : fr.w0.heap.size ≤ b ∨ (b, 0, 0) ∈ fr.par := by
  obtain ⟨_, h | ⟨p, hp, hr⟩⟩ := hR.mem.place o _ b hl rfl
  ·exact .inl h.1
  ·simp [Loc.range] at hr; subst hr; exact .inr hp
 have hset : L.set o (.iter b) = L := by
  funext n
  simp only [LMap.set]
  split
  ·rename_i e; rw [e, hl]
  ·rfl
 have hF : Frame0 fr (setBlock w b it) := by
  have h := hR.mem.frame
  refine ⟨h.os, h.tape, h.output, by simpa [setBlock] using h.size, fun b' hb' hn => ?_, fun p hp => ?_, fun x hx => ?_, h.gpar⟩
  ·exact (hs2 b' (fun e => by subst e; exact hnew.elim (fun h => by omega) (fun h => hn _ h rfl))).trans (h.block b' hb' hn)
  ·obtain ⟨ob0, ob', h1, h2, h3⟩ := h.part p hp
   by_cases hpb : p.1 = b
   ·subst hpb
    rw [hb] at h2; cases h2
    rcases h3 with ⟨_, c', e, f, _, h3, _⟩ | ⟨h3, _⟩
    ·exact absurd h3 (hno _ _ _)
    ·exact ⟨_, _, h1, hs1, .inr ⟨h3, hit⟩⟩
   ·exact ⟨ob0, ob', h1, (hs2 p.1 hpb).trans h2, h3⟩
  ·obtain ⟨v, h1, h2⟩ := h.glob x hx
   obtain ⟨g1, g2⟩ := h.gpar x hx
   exact ⟨v, (hs2 x.1 (fun e => by subst e; exact hnew.elim (fun h => by omega) (fun h => g2 _ h rfl))).trans h1, h2⟩
 obtain ⟨h1, _, _⟩ := R.step' hR o (.iter nl ks vs seen) (.iter b) hF (by simp [setBlock]) (fun b' _ hn => hs2 b' (fun e => hn _ hl (by rw [e]; rfl)))
  (fun l0 h => by rw [hl] at h; cases h; exact Loc.le_refl _)
  (fun b' hb' => .inl ⟨_, hl, hb', rfl⟩) (fun p hp => by simp [Loc.range] at hp; subst hp; exact .inr ⟨.inr rfl, _, hs1, hit⟩)
  (fun hext _ => by rw [hset] at hext ⊢; exact hat _ hext hs1)
 rw [hset] at h1
 exact h1
theorem R.iter (hR : R fr S L a w) {o : Nat} {nl : Bool} {ks : List Value} {vs : List PV} {seen : List Nat} (h : S.obj o = some (.iter nl ks vs seen)) : ∃ b, L o = some (.iter b) ∧ ItAt w (fr.F L) nl ks vs seen b := by
 obtain ⟨l, h1, h2⟩ := hR.mem.objs o _ h
 cases l with
 | iter b => exact ⟨b, h1, h2⟩
 | _ => exact h2.elim
theorem Trip.nextMap [Globs P] {nt id o ti t1 t2 y1 y2 : Nat} {p1 p2 : String} {f1 f2 : Array Edge} {nl : Bool} {ks : List Value} {vs : List PV} {seen : List Nat} {Q : Exit → St → Prop} (hi : S.get ti = some (.ref o 0)) (ho : S.obj o = some (.iter nl ks vs seen)) (hb : (Nat.blt t1 nt && Nat.blt t2 nt) = true)
  (h0 : (∀ j, j < ks.length → j ∈ seen) → Q .normal ((S.put (some t1) (.tup [bV false])).put (some t2) (bV false)))
  (h1 : ∀ j, j < ks.length → j ∉ seen → Q .normal (((S.upd [(o, .iter nl ks vs (seen ++ [j]))]).put (some t1) .dead).put (some t2) (bV true))) :
  Trip P nt S (.region id [⟨some t1, .next (.tmp ti) false, y1, p1, f1, none⟩, ⟨some t2, .extract (.tmp t1) 0, y2, p2, f2, none⟩].toArray false) Q := by
 intro fr hnt hG L a w hR
 simp only [Bool.and_eq_true, Nat.blt_eq] at hb
 have hsz : a.tmps.size = nt := hR.nt.trans hnt.1
 obtain ⟨b, g1, g2⟩ := hR.iter ho
 obtain ⟨x, hx1, hx2⟩ := hR.vals ti _ hi
 have hx : x = .pointer (some ⟨b, 0, none⟩) := by
  cases hx2 with
  | ref q1 q2 q3 => rw [g1] at q1; cases q1; exact q2
 have hev : a.eval (.tmp ti) = .pointer (some ⟨b, 0, none⟩) := by
  subst hx
  simp [Act.eval, Array.getD_eq_getD_getElem?, hx1]
 refine wp_region_lit (wpList_plain rfl fun K hK => ?_)
 have second : ∀ (S2 : St) (L2 : LMap) (q : Bool) (y : Value) (p : PV) (w2 : World), Go.Sym.R fr S2 L2 a w2 → Rep w2 (fr.F L2) L2 p y → (Instr.extract y 0).run P w2 = .ok (.bool q) w2 → Q .normal ((S2.put (some t1) p).put (some t2) (bV q)) → K (a.put (some t1) y) w2 := by
  intro S2 L2 q y p w2 hR2 hy hex hQ
  refine hK _ _ (wpList_plain rfl fun K2 hK2 => ?_)
  have hR3 : Go.Sym.R fr (S2.put (some t1) p) L2 (a.put (some t1) y) w2 := hR2.put (fun d hd => by cases hd; rw [hnt.1]; exact hb.1) hy
  unfold Oper.wp
  have hev2 : (a.put (some t1) y).eval (.tmp t1) = y := by
   have : t1 < a.tmps.size := by omega
   simp [Act.eval, Act.put, this]
  have hr : (execOp (a.put (some t1) y).eval ⟨some t2, .extract (.tmp t1) 0, y2, p2, f2, none⟩).run P w2 = .ok (.value (.bool q)) w2 := by
   simp only [execOp, Sem.run_bind, hev2, hex, Result.andThen_ok, Sem.run_pure]
  rw [hr, Oper.upon_value]
  exact hK2 _ _ (wpList_nil ⟨_, L2, hR3.put (fun d hd => by cases hd; rw [hnt.1]; exact hb.2) (.v _ _), hQ⟩)
 obtain ⟨v, hv, hcase⟩ := g2
 unfold Oper.wp
 have hrun : ∀ y w', (Instr.next (.pointer (some ⟨b, 0, none⟩)) false y1).run P w = .ok y w' → (execOp a.eval ⟨some t1, .next (.tmp ti) false, y1, p1, f1, none⟩).run P w = .ok (.value y) w' := fun y w' h => by
  simp only [execOp, Sem.run_bind, hev, h, Result.andThen_ok, Sem.run_pure]
 rcases hcase with ⟨rfl, hbk⟩ | ⟨m, rfl, hbk⟩
 ·have hks : ks = [] := by cases hv; rfl
  have hr : (Instr.next (.pointer (some ⟨b, 0, none⟩)) false y1).run P w = .ok (.tuple #[.bool false]) w := by
   simp [Instr.next, getObj, Sem.run, hbk]
  rw [hrun _ _ hr, Oper.upon_value]
  exact second S L false _ _ w hR (Rep.tup (vs := [.bool false]) (.cons (.v _ _) (.nil _))) rfl (h0 (fun j hj => by rw [hks] at hj; simp at hj))
 ·cases hv with
  | mp q1 q2 q3 q4 q5 =>
   rename_i clock es
   obtain ⟨q5, q6⟩ := q5
   have hn : ks.length = es.size := by rw [← q3]; simp
   have hborn : ∀ j (hj : j < es.size), es[j].born = j := fun j hj => by
    have : (es.toList.map (·.born))[j]? = some j := by rw [q6]; simp [hj]
    rw [List.getElem?_map, Array.getElem?_toList, Array.getElem?_eq_getElem hj] at this
    simpa using this
   have hmemb : ∀ e ∈ es.toList, e.born < es.size := fun e he => by
    obtain ⟨j, hj, rfl⟩ := List.mem_iff_getElem.1 he
    have hj' : j < es.size := by simpa using hj
    have := hborn j hj'
    simp only [Array.getElem_toList]
    omega
   rcases run_next_at (P := P) w y1 b m ks.length ks.length seen.toArray es clock hbk q1 (fun e he => by have := hmemb e he; omega) (Nat.le_refl _) with ⟨s1, s2⟩ | ⟨e, he, w1, hw1, s2⟩
   ·rw [hrun _ _ s2, Oper.upon_value]
    refine second S L false _ _ w hR (Rep.tup (vs := [.bool false]) (.cons (.v _ _) (.nil _))) rfl (h0 (fun j hj => ?_))
    have hj' : j < es.size := by omega
    have hem : leftOf es seen.toArray = #[] := Array.eq_empty_of_size_eq_zero s1
    rw [leftOf, Array.filter_eq_empty_iff] at hem
    have := hem es[j] (Array.getElem_mem hj')
    rw [hborn j hj'] at this
    simpa using this
   ·rw [hrun _ _ s2, Oper.upon_value]
    simp only [leftOf, Array.toList_filter, List.mem_filter] at he
    obtain ⟨j, hj, rfl⟩ := List.mem_iff_getElem.1 he.1
    have hj' : j < es.size := by simpa using hj
    have hbj : es.toList[j].born = j := by simp only [Array.getElem_toList]; exact hborn j hj'
    have hns : j ∉ seen := by have := he.2; rw [hbj] at this; simpa using this
    have hR1 : Go.Sym.R fr S L a w1 := by
     rcases hw1 with rfl | rfl
     ·exact hR
     ·exact hR.drew
    have hbk1 : w1.heap[b]? = some (.mapIter (some m) ks.length seen.toArray ks.length) := by rcases hw1 with rfl | rfl <;> exact hbk
    have hE1 : Ext w (fr.F L) w1 (fr.F L) := by
     rcases hw1 with rfl | rfl
     ·exact Ext.refl _ _
     ·exact fun b s hx hn => ⟨sees_drew hx, hn⟩
    have hcl : clock = ks.length := by omega
    have hR2 := hR1.putIter (nl := false) (ks := ks) (vs := vs) (seen := seen ++ [j]) (ob := _) (it := .mapIter (some m) ks.length (seen.toArray.push es.toList[j].born) clock) g1 hbk1 .iter .iter (fun w' hext hb' => ⟨_, ((Rep.mp (L := noL) q1 q2 q3 q4 ⟨q5, q6⟩).mono hE1 (LExt.refl _)).mono hext (LExt.refl _), .inr ⟨m, rfl, by rw [hb', hbj, hcl]; simp⟩⟩)
    exact second _ L true _ .dead _ hR2 (.dead _ _) rfl (h1 j (by omega) hns)
theorem F_entry [Globs P] (hγ : γ = true) {x : Operand} {o j : Nat} {nl : Bool} {ks : List Value} {vs : List PV} {seen : List Nat} {k : Value} {p : PV} (hx : OpdO γ S x (.ref o 0)) (ho : S.obj o = some (.iter nl ks vs (seen ++ [j]))) (hk : ks[j]? = some k) (hp : vs[j]? = some p) :
  FStep P ⟨dst, .entry x, ty, pos, aft, g⟩ S [o] ⟨.tup [.v k, p], []⟩ := by
 refine FStep.val fun fr S' L a w ht hn hR => ?_
 have h1 := hx.rep hγ hR (ht x (by simp [Op.operands]))
 obtain ⟨b, g1, g2⟩ := hR.iter ((hn _ (by simp)).trans ho)
 have hxe : a.eval x = .pointer (some ⟨b, 0, none⟩) := by
  cases h1 with
  | ref q1 q2 q3 => rw [g1] at q1; cases q1; exact q2
 obtain ⟨v, hv, hcase⟩ := g2
 rcases hcase with ⟨rfl, hbk⟩ | ⟨m, rfl, hbk⟩
 ·cases hv; simp at hk
 ·cases hv with
  | mp q1 q2 q3 q4 q5 =>
   rename_i clock es
   obtain ⟨q5, q6⟩ := q5
   have hj : j < es.size := by
    have := (List.getElem?_eq_some_iff.1 hk).1
    rw [← q3] at this; simpa using this
   have hborn : es[j].born = j := by
    have : (es.toList.map (·.born))[j]? = some j := by rw [q6]; simp [hj]
    rw [List.getElem?_map, Array.getElem?_toList, Array.getElem?_eq_getElem hj] at this
    simpa using this
   have hcl : clock = ks.length := by rw [← q3, q5]; simp
   have hkey : es[j].key = k := by
    rw [← q3, List.getElem?_map, Array.getElem?_toList, Array.getElem?_eq_getElem hj] at hk
    simpa using hk
   obtain ⟨y, hy, hr⟩ := repL_get q4 j p hp
   have hval : es[j].val = y := by
    rw [List.getElem?_map, Array.getElem?_toList, Array.getElem?_eq_getElem hj] at hy
    simpa using hy
   have hrun := run_entry_at (P := P) w b m ks.length seen.toArray es clock es[j] (by rw [hbk, hborn, hcl]; simp) q1 (by simp) (by rw [q6]; exact List.nodup_range)
   rw [hkey, hval] at hrun
   exact ⟨_, by simp only [execOp, Sem.run_bind, hxe, hrun, Result.andThen_ok, Sem.run_pure], Rep.tup (.cons (.v _ _) (.cons (hr.mono (Ext.refl _ _) (fun o l h => by cases h)) (.nil _)))⟩
end
end Go.Sym
