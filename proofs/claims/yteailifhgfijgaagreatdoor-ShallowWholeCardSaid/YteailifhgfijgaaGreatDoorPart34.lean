/- A part of the proof: GAdd, GShx, Wb, Wc, Wd, GShy. -/
import Derived.Test.YteailifhgfijgaaGreatDoorPart33
set_option linter.unusedVariables false
set_option linter.unusedSimpArgs false
namespace Go.Graft
open Go.Sym
def addN (l : List Str) (s : Str) : Nat → Bool × List Str
 | 0 => (false, [])
 | i + 1 =>
  ((addN l s i).1 || !bl l[i]! s,
   if l[i]! = s then (if (!(addN l s i).1 && !bl l[i]! s) = true then (addN l s i).2 ++ [s] else (addN l s i).2)
   else (if (!(addN l s i).1 && !bl l[i]! s) = true then (addN l s i).2 ++ [s] else (addN l s i).2) ++ [l[i]!])
theorem addN_len (l : List Str) (s : Str) : ∀ i, (addN l s i).2.length ≤ i + (if (addN l s i).1 = true then 1 else 0)
 | 0 => Nat.zero_le _
 | i + 1 => by
  have ih := addN_len l s i
  rw [addN]
  cases h1 : (addN l s i).1 <;> cases h2 : bl l[i]! s <;> rw [h1] at ih <;> simp only [] at ih ⊢ <;> (try split) <;> simp at ih ⊢ <;> omega
structure AddI (l : List Str) (s : Str) (i : Nat) : Prop where
 b : (addN l s i).1 = true ↔ ∃ j, j < i ∧ bl l[j]! s = false
 m : ∀ x, x ∈ (addN l s i).2 ↔ (x ∈ l.take i ∧ x ≠ s) ∨ ((addN l s i).1 = true ∧ x = s)
 a : asc (addN l s i).2
theorem asc_snoc {l : List Str} {x : Str} (h : asc l) (hx : ∀ y ∈ l, bl y x = true) : asc (l ++ [x]) := by
 rw [asc, List.pairwise_append]
 exact ⟨h, List.pairwise_singleton _ _, fun a ha b hb => by rw [List.mem_singleton] at hb; subst hb; exact hx a ha⟩
theorem addN_spec {l : List Str} (h : asc l) (s : Str) : ∀ i, i ≤ l.length → AddI l s i
 | 0, _ => ⟨by simp [addN], by simp [addN], List.Pairwise.nil⟩
 | i + 1, hi => by
  obtain ⟨ib, im, ia⟩ := addN_spec h s i (by omega)
  have htk : ∀ x, x ∈ l.take (i + 1) ↔ x ∈ l.take i ∨ x = l[i]! := fun x => by rw [take_snoc l i (by omega), List.mem_append, List.mem_singleton]
  have hlt : ∀ x ∈ l.take i, bl x l[i]! = true := fun x hx => by
   obtain ⟨j, hj, rfl⟩ := List.mem_iff_getElem.1 hx
   rw [List.length_take] at hj
   have := asc_at h (i := j) (j := i) (by omega) (by omega)
   rw [List.getElem_take]
   rwa [getElem!_pos l j (by omega)] at this
  have hb : ((addN l s i).1 || !bl l[i]! s) = true ↔ ∃ j, j < i + 1 ∧ bl l[j]! s = false := by
   rw [Bool.or_eq_true, ib, Bool.not_eq_true']
   constructor
   ·rintro (⟨j, h1, h2⟩ | h1)
    ·exact ⟨j, by omega, h2⟩
    ·exact ⟨i, by omega, h1⟩
   ·rintro ⟨j, h1, h2⟩
    rcases Nat.lt_succ_iff_lt_or_eq.1 h1 with h1 | rfl
    ·exact .inl ⟨j, h1, h2⟩
    ·exact .inr h2
  have hsl : (addN l s i).1 = true → bl s l[i]! = true := fun hq => by
   obtain ⟨j, h1, h2⟩ := ib.1 hq
   have h3 := asc_at h (i := j) (j := i) h1 (by omega)
   rcases bl_tri l[j]! s with h4 | h4 | h4
   ·rw [h2] at h4; simp at h4
   ·exact bl_trans h4 h3
   ·rw [← h4]; exact h3
  generalize hq : (addN l s i).1 = q at *
  generalize ho : (addN l s i).2 = o at *
  have hadd : addN l s (i + 1) = (q || !bl l[i]! s, if l[i]! = s then (if (!q && !bl l[i]! s) = true then o ++ [s] else o) else (if (!q && !bl l[i]! s) = true then o ++ [s] else o) ++ [l[i]!]) := by rw [addN, hq, ho]
  have hlo : q = false → ∀ y ∈ o, bl y l[i]! = true := fun hqf y hy => by
   rcases (im y).1 hy with ⟨k, _⟩ | ⟨k, _⟩
   ·exact hlt y k
   ·rw [hqf] at k; simp at k
  cases hlb : bl l[i]! s with
  | true =>
   have hq0 : q = false := by
    cases hq1 : q with
    | false => rfl
    | true => have := hsl hq1; rw [bl_asym hlb] at this; simp at this
   subst hq0
   have hne : l[i]! ≠ s := bl_ne hlb
   rw [hlb, if_neg hne, if_neg (by simp)] at hadd
   refine ⟨by rw [hadd]; rw [hlb] at hb; exact hb, fun x => ?_, ?_⟩
   ·rw [hadd]
    show x ∈ o ++ [l[i]!] ↔ (x ∈ l.take (i + 1) ∧ x ≠ s) ∨ (false = true ∧ x = s)
    rw [List.mem_append, List.mem_singleton, im, htk]
    constructor
    ·rintro ((⟨k1, k2⟩ | ⟨k, _⟩) | rfl)
     ·exact .inl ⟨.inl k1, k2⟩
     ·simp at k
     ·exact .inl ⟨.inr rfl, hne⟩
    ·rintro (⟨k1 | rfl, k2⟩ | ⟨k, _⟩)
     ·exact .inl (.inl ⟨k1, k2⟩)
     ·exact .inr rfl
     ·simp at k
   ·rw [hadd]; exact asc_snoc ia (hlo rfl)
  | false =>
   have hge : l[i]! = s ∨ bl s l[i]! = true := by
    rcases bl_tri l[i]! s with k | k | k
    ·rw [hlb] at k; simp at k
    ·exact .inr k
    ·exact .inl k
   cases q with
   | true =>
    have hs := hsl rfl
    have hne : l[i]! ≠ s := fun e => by rw [e, bl_irr] at hs; simp at hs
    rw [hlb, if_neg hne, if_neg (by simp)] at hadd
    refine ⟨by rw [hadd]; rw [hlb] at hb; exact hb, fun x => ?_, ?_⟩
    ·rw [hadd]
     show x ∈ o ++ [l[i]!] ↔ (x ∈ l.take (i + 1) ∧ x ≠ s) ∨ (true = true ∧ x = s)
     rw [List.mem_append, List.mem_singleton, im, htk]
     constructor
     ·rintro ((⟨k1, k2⟩ | k) | rfl)
      ·exact .inl ⟨.inl k1, k2⟩
      ·exact .inr k
      ·exact .inl ⟨.inr rfl, hne⟩
     ·rintro (⟨k1 | rfl, k2⟩ | k)
      ·exact .inl (.inl ⟨k1, k2⟩)
      ·exact .inr rfl
      ·exact .inl (.inr k)
    ·rw [hadd]
     refine asc_snoc ia fun y hy => ?_
     rcases (im y).1 hy with ⟨k, _⟩ | ⟨_, rfl⟩
     ·exact hlt y k
     ·exact hs
   | false =>
    have hos : ∀ y ∈ o, bl y s = true := fun y hy => by
     rcases (im y).1 hy with ⟨k, k2⟩ | ⟨k, _⟩
     ·obtain ⟨j, hj, rfl⟩ := List.mem_iff_getElem.1 k
      rw [List.length_take] at hj
      cases hq2 : bl l[j]! s with
      | true => rw [List.getElem_take]; rwa [getElem!_pos l j (by omega)] at hq2
      | false => exact absurd (ib.2 ⟨j, by omega, hq2⟩) (by simp)
     ·simp at k
    have ha2 := asc_snoc ia hos
    have hadd : addN l s (i + 1) = (true, if l[i]! = s then o ++ [s] else o ++ [s] ++ [l[i]!]) := by rw [hadd, hlb]; rfl
    refine ⟨by rw [hadd]; rw [hlb] at hb; exact hb, fun x => ?_, ?_⟩
    ·rw [hadd]
     dsimp only
     by_cases he : l[i]! = s
     ·rw [if_pos he, List.mem_append, List.mem_singleton, im, htk]
      constructor
      ·rintro ((⟨k1, k2⟩ | ⟨k, _⟩) | rfl)
       ·exact .inl ⟨.inl k1, k2⟩
       ·simp at k
       ·exact .inr ⟨rfl, rfl⟩
      ·rintro (⟨k1 | rfl, k2⟩ | ⟨_, rfl⟩)
       ·exact .inl (.inl ⟨k1, k2⟩)
       ·exact absurd he k2
       ·exact .inr rfl
     ·rw [if_neg he, List.mem_append, List.mem_append, List.mem_singleton, List.mem_singleton, im, htk]
      constructor
      ·rintro (((⟨k1, k2⟩ | ⟨k, _⟩) | rfl) | rfl)
       ·exact .inl ⟨.inl k1, k2⟩
       ·simp at k
       ·exact .inr ⟨rfl, rfl⟩
       ·exact .inl ⟨.inr rfl, he⟩
      ·rintro (⟨k1 | rfl, k2⟩ | ⟨_, rfl⟩)
       ·exact .inl (.inl (.inl ⟨k1, k2⟩))
       ·exact .inr rfl
       ·exact .inl (.inr rfl)
    ·rw [hadd]
     dsimp only
     split
     ·exact ha2
     ·rename_i he
      refine asc_snoc ha2 fun y hy => ?_
      rcases List.mem_append.1 hy with k | k
      ·exact hlo rfl y k
      ·rw [List.mem_singleton] at k; subst k
       exact hge.resolve_left he
def addP (l : List Str) (s : Str) : List Str := if (addN l s l.length).1 = true then (addN l s l.length).2 else (addN l s l.length).2 ++ [s]
theorem addP_ins {l : List Str} (h : asc l) (s : Str) : addP l s = insS l s := by
 obtain ⟨ib, im, ia⟩ := addN_spec h s l.length (Nat.le_refl _)
 rw [List.take_length] at im
 rw [addP]
 split
 ·rename_i hq
  refine asc_unique ia (insS_asc s h) fun x => ?_
  rw [im, insS_mem s x h]
  constructor
  ·rintro (⟨k, _⟩ | ⟨_, k⟩)
   ·exact .inr k
   ·exact .inl k
  ·rintro (k | k)
   ·exact .inr ⟨hq, k⟩
   ·by_cases e : x = s
    ·exact .inr ⟨hq, e⟩
    ·exact .inl ⟨k, e⟩
 ·rename_i hq
  have hall : ∀ y ∈ (addN l s l.length).2, bl y s = true := fun y hy => by
   rcases (im y).1 hy with ⟨k, _⟩ | ⟨k, _⟩
   ·obtain ⟨j, hj, rfl⟩ := List.mem_iff_getElem.1 k
    cases hq2 : bl l[j]! s with
    | true => rwa [getElem!_pos l j hj] at hq2
    | false => exact absurd (ib.2 ⟨j, hj, hq2⟩) hq
   ·exact absurd k hq
  refine asc_unique (asc_snoc ia hall) (insS_asc s h) fun x => ?_
  rw [List.mem_append, List.mem_singleton, im, insS_mem s x h]
  constructor
  ·rintro ((⟨k, _⟩ | ⟨k, _⟩) | k)
   ·exact .inr k
   ·exact absurd k hq
   ·exact .inl k
  ·rintro (k | k)
   ·exact .inr k
   ·by_cases e : x = s
    ·exact .inr e
    ·exact .inl (.inl ⟨k, e⟩)
end Go.Graft
namespace Go.Graft
open Go.Sym
theorem nodup_len {α : Type} [BEq α] [LawfulBEq α] : ∀ {a b : List α}, a.Nodup → (∀ x ∈ a, x ∈ b) → a.length ≤ b.length
 | [], _, _, _ => Nat.zero_le _
 | x :: a, b, h, hs => by
  rw [List.nodup_cons] at h
  have hx := hs x List.mem_cons_self
  have ih := nodup_len (a := a) (b := b.erase x) h.2 fun y hy => (List.mem_erase_of_ne (fun (e : y = x) => h.1 (e ▸ hy))).2 (hs y (List.mem_cons_of_mem _ hy))
  have h1 := List.length_erase_of_mem hx
  have h2 := List.length_pos_of_mem hx
  rw [List.length_cons]; omega
def allP (l : List It) : List Str := l.flatMap fun it => (comP it.body).2.pars
theorem allP_len : ∀ (l : List It), (∀ x ∈ l, x.body.length ≤ 3000) → (allP l).length ≤ l.length * 3000
 | [], _ => Nat.zero_le _
 | x :: r, h => by
  have ih := allP_len r fun y hy => h y (List.mem_cons_of_mem _ hy)
  have h1 := comR_len x.body
  have h2 := h x List.mem_cons_self
  rw [← com_same] at h1
  rw [allP, List.flatMap_cons, List.length_append, List.length_cons, Nat.succ_mul]
  rw [allP] at ih
  omega
theorem rdP_all {l : List It} {cuts : List Str} {x y : Str} (h : y ∈ rdP l cuts x) : y ∈ allP l ∧ rdE l x = 0 := by
 rw [rdP] at h
 split at h
 ·simp at h
 ·rename_i he
  have he : rdE l x = 0 := by simpa using he
  split at h
  ·simp at h
  ·exact ⟨List.mem_flatMap.2 ⟨_, bang_mem (placed_lt (rdE_placed he)).1, h⟩, he⟩
theorem flatP_all {l : List It} {cuts a : List Str} {y : Str} (h : y ∈ flatP l cuts a) : y ∈ allP l := by
 obtain ⟨x, _, hx⟩ := List.mem_flatMap.1 h
 exact (rdP_all hx).1
theorem sortS_le (a : List Str) : (sortS a).length ≤ a.length := by rw [sortS]; exact sortN_len a _
theorem insS_ne (l : List Str) (x : Str) : (insS l x).isEmpty = false := by
 rw [List.isEmpty_eq_false_iff_exists_mem, insS]
 split
 ·rename_i hz
  cases l with
  | nil => simp [holdsP] at hz
  | cons z zs => exact ⟨z, by simp⟩
 ·exact ⟨x, by simp⟩
end Go.Graft
namespace Go.Proofs.Tryz
open Go Go.Sym Go.Graft
set_option maxRecDepth 20000
set_option maxHeartbeats 1000000 in
theorem cAdd06 (nl : Bool) (l : List Str) (x : Str) (ha : asc l) (hs : l.length ≤ 1000000000) : Ctr prog 33 [.sl nl 1 (l.map fun x => sV x), sV x] [] (.sl false 1 ((insS l x).map fun x => sV x)) [] [] := by
 have hP := addP_ins ha x
 have hne := insS_ne l x
 rw [← hP] at hne ⊢
 have hA : addP l x = if (addN l x l.length).1 = true then (addN l x l.length).2 else (addN l x l.length).2 ++ [x] := rfl
 rw [hA] at hne ⊢
 clear hA hP ha
 have hlen := addN_len l x
 refine Ctr.enter tblOk func33 rfl (by decide) rfl (nt := 48) rfl rfl rfl rfl ?_
 refine Trip.sr tblOk ?_
 refine Trip.sr tblOk ?_
 refine Trip.sr tblOk ?_
 refine Trip.seq (Trip.sr tblOk ?_)
 refine Trip.block ?_
 apply Trip.loop (fun (i : Nat) => ⟨[(0, .sl nl 1 (l.map fun x => sV x)), (1, sV x), (5, .osl 900 0 (addN l x i).2.length (addN l x i).2.length), (6, bV (addN l x i).1), (7, iV i)], [(900, .arr 1 (addN l x i).2.isEmpty ((addN l x i).2.map fun x => sV x))]⟩) (fun (i : Nat) => i ≤ l.length) (fun (i : Nat) => l.length - i) (0)
 ·first | omega | (simp; done)
 ·refine Weak.trans (S2 := ⟨[(0, .sl nl 1 (l.map fun x => sV x)), (1, sV x), (5, nilS), (6, bV false), (7, iV 0)], []⟩) ?_ ?_
  ·exact Weak.kp
  ·exact Weak.adopt 900 1 rfl rfl (by repeat' (first | exact rfl | constructor)) (by repeat' (first | exact rfl | constructor))
 intro i hi
 have hlen := hlen i
 have hl1 : (addN l x i).2.length ≤ i + 1 := Nat.le_trans hlen (by split <;> omega)
 have hst : addN l x (i + 1) = ((addN l x i).1 || !bl l[i]! x, if l[i]! = x then (if (!(addN l x i).1 && !bl l[i]! x) = true then (addN l x i).2 ++ [x] else (addN l x i).2) else (if (!(addN l x i).1 && !bl l[i]! x) = true then (addN l x i).2 ++ [x] else (addN l x i).2) ++ [l[i]!]) := rfl
 refine Trip.seq (Trip.sr tblOk ?_)
 apply Trip.cond (.tmp rfl)
 ·intro h
  have h : i < l.length := by simp at h; omega
  clear hne hlen
  generalize hq2 : addN l x (i + 1) = q2 at *
  generalize addN l x i = q at *
  obtain ⟨b, o⟩ := q
  obtain ⟨b2, o2⟩ := q2
  simp only [Prod.mk.injEq] at hst
  dsimp only at *
  obtain ⟨hb2, ho2⟩ := hst
  refine Trip.skip ?_
  refine Trip.seqk ⟨[(0, .sl nl 1 (l.map fun x => sV x)), (1, sV x), (5, .osl 900 0 o2.length o2.length), (6, bV b2), (7, iV i)], [(900, .arr 1 o2.isEmpty (o2.map fun x => sV x))]⟩ ?_ ?_
  ·refine Trip.block ?_
   refine Trip.seqk ⟨[(0, .sl nl 1 (l.map fun x => sV x)), (1, sV x), (5, .osl 900 0 (if (!b && !bl l[i]! x) = true then o ++ [x] else o).length (if (!b && !bl l[i]! x) = true then o ++ [x] else o).length), (6, bV b2), (7, iV i)], [(900, .arr 1 (if (!b && !bl l[i]! x) = true then o ++ [x] else o).isEmpty ((if (!b && !bl l[i]! x) = true then o ++ [x] else o).map fun x => sV x))]⟩ ?_ ?_
   ·refine Trip.sR tblOk (by repeat' (first | exact rfl | exact idx_map _ _ _ (by show _ < _; first | omega | (simp only [List.length_map] at *; omega)) | ((with_reducible refine Side.mk ?_); first | exact fun h => h | exact fun _ h => h | (simp only [ln]; first | done | omega)) | constructor)) ?_
    apply Trip.cond (.tmp rfl)
    ·intro h2
     have h2 : (!b && !bl l[i]! x) = true := h2
     rw [if_pos h2]
     have hb3 : b2 = true := by rw [hb2]; simp only [Bool.and_eq_true, Bool.not_eq_true'] at h2; rw [h2.2]; simp
     subst hb3
     refine Trip.sR tblOk (by repeat' (first | exact rfl | ((with_reducible refine Side.mk ?_); (simp only [ln]; first | done | omega)) | constructor)) ?_
     refine Trip.r tblOk ?_
     exact Weak.kp (ht := by repeat' (first | exact rfl | (refine Side.mk (oslE ?_ ?_) <;> (simp only [ln]; first | done | omega)) | constructor)) (ho := by repeat' (first | exact rfl | exact arrF (by simp) (by simp) | constructor)) (huo := by repeat' (first | exact plainL_map _ (fun _ => rfl) _ | constructor))
    ·intro h2
     have h2 : (!b && !bl l[i]! x) = false := h2
     rw [if_neg (by rw [h2]; simp)]
     have hb3 : b2 = b := by
      rw [hb2]
      exact (by decide : ∀ b t : Bool, (!b && !t) = false → (b || !t) = b) _ _ h2
     subst hb3
     refine Trip.skip ?_
     exact Weak.kp (huo := by repeat' (first | exact plainL_map _ (fun _ => rfl) _ | constructor))
   have hol : (if (!b && !bl l[i]! x) = true then o ++ [x] else o).length ≤ i + 2 := by
    split
    ·simp only [List.length_append, List.length_singleton]; omega
    ·omega
   generalize (if (!b && !bl l[i]! x) = true then o ++ [x] else o) = o1 at *
   refine Trip.sR tblOk (by repeat' (first | exact rfl | exact idx_map _ _ _ (by show _ < _; first | omega | (simp only [List.length_map] at *; omega)) | ((with_reducible refine Side.mk ?_); (simp only [ln]; first | done | omega)) | constructor)) ?_
   apply Trip.cond (.tmp rfl)
   ·intro h2
    have h2 : ¬ l[i]! = x := by simpa using h2
    rw [if_neg h2] at ho2
    subst ho2
    refine Trip.R tblOk (by repeat' (first | exact rfl | exact idx_map _ _ _ (by show _ < _; first | omega | (simp only [List.length_map] at *; omega)) | ((with_reducible refine Side.mk ?_); (simp only [ln]; first | done | omega)) | constructor)) ?_
    exact Weak.kp (ht := by repeat' (first | exact rfl | (refine Side.mk (oslE ?_ ?_) <;> (simp only [ln]; first | done | omega)) | constructor)) (ho := by repeat' (first | exact rfl | exact arrF (by simp) (by simp) | constructor)) (huo := by repeat' (first | exact plainL_map _ (fun _ => rfl) _ | constructor))
   ·intro h2
    have h2 : l[i]! = x := by simpa using h2
    rw [if_pos h2] at ho2
    subst ho2
    refine Trip.skip ?_
    exact Weak.kp (huo := by repeat' (first | exact plainL_map _ (fun _ => rfl) _ | constructor))
  refine Trip.R tblOk (by repeat' (first | exact rfl | ((with_reducible refine Side.mk ?_); omega) | constructor)) ?_
  exact ⟨i + 1, by first | omega | (dsimp only at *; omega), by first | omega | (dsimp only at *; omega), Weak.kp (ht := by repeat' (first | exact rfl | (rw [hq2]; rfl) | constructor)) (ho := by repeat' (first | exact rfl | (rw [hq2]; rfl) | constructor)) (huo := by repeat' (first | exact plainL_map _ (fun _ => rfl) _ | constructor))⟩
 intro h
 have h : i = l.length := by simp at h; omega
 subst h
 clear hst
 generalize addN l x l.length = q at *
 obtain ⟨b, o⟩ := q
 dsimp only at *
 refine Trip.exit ?_
 refine Trip.seqk ⟨[(5, .osl 900 0 (if b = true then o else o ++ [x]).length (if b = true then o else o ++ [x]).length)], [(900, .arr 1 false ((if b = true then o else o ++ [x]).map fun x => sV x))]⟩ ?_ ?_
 ·refine Trip.sr tblOk ?_
  apply Trip.cond (.tmp rfl)
  ·intro h
   have h : ¬ b = true := by simpa using h
   rw [if_neg h]
   refine Trip.R tblOk (by repeat' (first | exact rfl | ((with_reducible refine Side.mk ?_); (simp only [ln]; first | done | omega)) | constructor)) ?_
   exact Weak.kp (ht := by repeat' (first | exact rfl | (refine Side.mk (oslE ?_ ?_) <;> (simp only [ln]; first | done | omega)) | constructor)) (ho := by repeat' (first | exact rfl | exact arrF (by simp) (by simp) | constructor)) (huo := by repeat' (first | exact plainL_map _ (fun _ => rfl) _ | constructor))
  ·intro h
   have h : b = true := by simpa using h
   rw [if_pos h] at hne
   rw [if_pos h]
   refine Trip.skip ?_
   exact Weak.kp (ho := by repeat' (first | exact rfl | exact arrF hne rfl | constructor)) (huo := by repeat' (first | exact plainL_map _ (fun _ => rfl) _ | constructor))
 refine Trip.sr tblOk ?_
 refine Trip.ret (rt1 [900] (hc := by repeat' (first | exact rfl | exact plainL_map _ (fun _ => rfl) _ | (refine Side.mk ?_; simp only [ln]; first | done | omega) | constructor)))
theorem cSet06 (nl : Bool) (l : List Str) (hs : l.length ≤ 100000000) : Ctr prog 16 [.sl nl 1 (l.map fun x => sV x)] [] (.sl (decide (l.length = 0)) 1 ((sortS l).map fun x => sV x)) [] [] := by
 refine Ctr.enter tblOk func16 rfl (by decide) rfl (nt := 18) rfl rfl rfl rfl ?_
 refine Trip.sr tblOk ?_
 refine Trip.sr tblOk ?_
 refine Trip.seq (Trip.sr tblOk ?_)
 refine Trip.block ?_
 apply Trip.loop (fun (i : Nat) => ⟨[(0, .sl nl 1 (l.map fun x => sV x)), (3, .sl (decide (i = 0)) 1 ((sortN l i).map fun x => sV x)), (4, iV i)], []⟩) (fun (i : Nat) => i ≤ l.length) (fun (i : Nat) => l.length - i) (0)
 ·first | omega | (simp; done)
 ·refine Weak.trans (S2 := ⟨[(0, .sl nl 1 (l.map fun x => sV x)), (3, nilS), (4, iV 0)], []⟩) ?_ (Weak.turn [] rfl rfl (.cons rfl .sl (.cons rfl .nilS (.cons rfl .v .nil))) .nil)
  exact Weak.kp
 intro i hi
 refine Trip.seq (Trip.sr tblOk ?_)
 apply Trip.cond (.tmp rfl)
 ·intro h
  have h : i < l.length := by simp at h; omega
  have hl := sortN_len l i
  have c1 := cAdd06 (decide (i = 0)) (sortN l i) l[i]! (sortN_asc l i) (by omega)
  have hst : sortN l (i + 1) = insS (sortN l i) l[i]! := rfl
  rw [← hst, show false = decide (i + 1 = 0) from (decide_eq_false (by omega)).symm] at c1
  generalize hs2 : sortN l (i + 1) = s2 at *
  generalize sortN l i = s1 at *
  refine Trip.skip (Trip.seq (Trip.block (Trip.R tblOk (by repeat' (first | exact rfl | (apply Rule.sem; intro hγ; with_reducible apply F_call0 (x := .func 33) (B := []) hγ (hspec := c1)) | exact idx_map _ _ _ (by show _ < _; first | omega | (simp only [List.length_map] at *; omega)) | ((with_reducible refine Side.mk ?_); first | exact .inl rfl | (simp only [ln]; first | done | omega)) | constructor)) ?_)))
  refine Trip.R tblOk (by repeat' (first | exact rfl | ((with_reducible refine Side.mk ?_); omega) | constructor)) ?_
  exact ⟨i + 1, by first | omega | (dsimp only at *; omega), by first | omega | (dsimp only at *; omega), Weak.kp (ht := by repeat' (first | exact rfl | (rw [hs2]; rfl) | constructor))⟩
 intro h
 have h : i = l.length := by simp at h; omega
 subst h
 refine Trip.exit ?_
 rw [sortS]
 refine Trip.sr tblOk ?_
 refine Trip.ret (rt1 [])
end Go.Proofs.Tryz
namespace Go.Proofs.Tryz
open Go Go.Sym Go.Graft
set_option maxRecDepth 20000
def depAll (l : List It) (cuts wants : List Str) (n : Int) : List Str × List Str × Int := if n < 1 then ([], [], 1) else depR l cuts n.toNat wants []
end Go.Proofs.Tryz
namespace Go.Proofs.Tryz
open Go Go.Sym Go.Graft
set_option maxRecDepth 20000
theorem cCompactN (n : Nat) (nl : Bool) (l : List Str) (hn : n = l.length) (hs : l.length ≤ 1000000000) (ha : ∀ i, 1 ≤ i → i < l.length → l[i]! ≠ l[i - 1]!) :
  Ctr prog 57 [.osl PN 0 n n] [.arr 1 nl (l.map fun s => sV s)] (.osl PN 0 n n) [.arr 1 nl (l.map fun s => sV s)] [] := by
 subst hn
 refine Ctr.enter tblOk func57 rfl (by decide) rfl (nt := 61) rfl rfl rfl rfl ?_
 refine Trip.sr tblOk ?_
 refine Trip.seq (Trip.sR tblOk (by repeat' (first | exact rfl | ((with_reducible refine Side.mk ?_); (simp only [ln]; first | done | omega)) | constructor)) ?_)
 apply Trip.cond (.tmp rfl)
 ·intro h
  refine Trip.sr tblOk ?_
  refine Trip.ret ?_
  apply Ret1o
  ·repeat' (first | exact rfl | constructor)
  ·repeat' (first | exact rfl | constructor)
  ·repeat' (first | exact plainL_map _ (fun _ => rfl) _ | constructor)
  ·repeat' (first | exact rfl | constructor)
 intro h
 have h : 2 ≤ l.length := by simp at h; omega
 refine Trip.skip (Trip.seq (Trip.sr tblOk ?_))
 refine Trip.block ?_
 refine Trip.loop (fun (i : Nat) => ⟨[(0, .osl PN 0 l.length l.length), (3, iV i)], [(PN, .arr 1 nl (l.map fun s => sV s))]⟩) (fun (i : Nat) => 1 ≤ i ∧ i ≤ l.length) (fun (i : Nat) => l.length - i) (1) (by exact ⟨Nat.le_refl _, by omega⟩) (Weak.kp (huo := by repeat' (first | exact plainL_map _ (fun _ => rfl) _ | constructor))) ?_
 rintro i ⟨hi0, hi⟩
 refine Trip.seq (Trip.sR tblOk (by repeat' (first | exact rfl | ((with_reducible refine Side.mk ?_); (simp only [ln]; first | done | omega)) | constructor)) ?_)
 apply Trip.cond (.tmp rfl)
 ·intro h
  have h : i < l.length := by simp at h; omega
  have hne := ha i hi0 h
  refine Trip.skip (Trip.seq (Trip.block (Trip.sD tblOk mixed (by repeat' (first | exact rfl | exact idx_map _ _ _ (by show _ < _; first | omega | (simp only [List.length_map] at *; omega)) | ((with_reducible refine Side.mk ?_); first | omega | (simp only [ln]; first | done | omega)) | constructor)) ?_)))
  apply Trip.cond (.tmp rfl)
  ·intro h2
   refine absurd ?_ hne
   rw [getElem!_pos l i (by omega), getElem!_pos l (i - 1) (by omega)]
   rw [getElem!_pos l i (by omega), getElem!_pos l (i - 1) (by omega)] at hne
   have h2 : l[i]! = l[i - 1]! := by simpa using h2
   rw [getElem!_pos l i (by omega), getElem!_pos l (i - 1) (by omega)] at h2
   exact h2
  intro h2
  clear h2
  refine Trip.skip (Trip.R tblOk (by repeat' (first | exact rfl | ((with_reducible refine Side.mk ?_); omega) | constructor)) ?_)
  exact ⟨i + 1, by exact ⟨by omega, by omega⟩, by first | omega | (dsimp only at *; omega), Weak.kp (huo := by repeat' (first | exact plainL_map _ (fun _ => rfl) _ | constructor))⟩
 intro h
 have h : i = l.length := by simp at h; omega
 subst h
 refine Trip.exit (Trip.sr tblOk ?_)
 refine Trip.ret ?_
 apply Ret1o
 ·repeat' (first | exact rfl | constructor)
 ·repeat' (first | exact rfl | constructor)
 ·repeat' (first | exact plainL_map _ (fun _ => rfl) _ | constructor)
 ·repeat' (first | exact rfl | constructor)
theorem msort_adj {l : List Str} (h : l.Nodup) (i : Nat) (h1 : 1 ≤ i) (h2 : i < (msort l).length) : (msort l)[i]! ≠ (msort l)[i - 1]! := by
 have hn : (msort l).Nodup := asc_nodup (msort_asc h)
 rw [getElem!_pos _ i h2, getElem!_pos _ (i - 1) (by omega)]
 intro e
 have := (List.getElem_inj hn).1 e
 omega
theorem cSortedS (nl : Bool) (l : List Str) (hnl : nl = true → l = []) (hnd : l.Nodup) (hs : l.length ≤ 1000000000) :
  Ctr prog 29 [.sl nl 1 (l.map fun x => sV x)] [] (.sl nl 1 ((msort l).map fun x => sV x)) [] [] := by
 have c1 := cCloneS nl (l.map fun x => sV x) (by intro h; rw [hnl h]; rfl) (plainL_map _ (fun _ => rfl) _) (cellsOk_map _ (fun _ => rfl) _) (by rw [List.length_map]; omega)
 rw [List.length_map] at c1
 have c2 := cSortS l.length nl l rfl (by omega)
 have hml := msort_len l
 have c3 := cCompactN l.length nl (msort l) (by omega) (by omega) (msort_adj hnd)
 generalize msort l = m at *
 refine Ctr.enter tblOk func29 rfl (by decide) rfl (nt := 10) rfl rfl rfl rfl ?_
 refine Trip.sr tblOk ?_
 refine Trip.sR tblOk (by repeat' (first | exact rfl | (apply Rule.sem; intro hγ; with_reducible apply F_call (x := .func 34) (σ := []) (B := []) (news := [900]) hγ (hspec := c1)) | exact plainL_map _ (fun _ => rfl) _ | ((with_reducible refine Side.mk ?_); exact .inl rfl) | constructor)) ?_
 refine Trip.sR tblOk (by repeat' (first | exact rfl | (apply Rule.sem; intro hγ; with_reducible apply F_call (x := .func 55) (σ := [900]) (B := []) (news := []) hγ (hspec := c2)) | exact plainL_map _ (fun _ => rfl) _ | ((with_reducible refine Side.mk ?_); exact .inl rfl) | constructor)) ?_
 refine Trip.sR tblOk (by repeat' (first | exact rfl | (apply Rule.sem; intro hγ; with_reducible apply F_call (x := .func 57) (σ := [900]) (B := []) (news := []) hγ (hspec := c3)) | exact plainL_map _ (fun _ => rfl) _ | ((with_reducible refine Side.mk ?_); exact .inl rfl) | constructor)) ?_
 refine Trip.ret (rt1 [900] (hc := by repeat' (first | exact rfl | exact plainL_map _ (fun _ => rfl) _ | (refine Side.mk ?_; simp only [ln]; first | done | omega) | constructor)))
theorem cKeysM (ks : List Value) (vs : List PV) : Ctr prog 28 [.mp false ks vs] [] (.it 56 ks) [] [] :=
 Ctr.keys ⟨_, func28, rfl, rfl⟩ (fun mb w => Tryz.maps_Keys mb w) ks vs
theorem cSortedK (ks : List Str) (hnd : ks.Nodup) (hs : ks.length ≤ 1000000000) (hk : ∀ x ∈ ks, x.length ≤ maxLen) : Ctr prog 27 [.it 56 (ks.map strK)] [] (.sl ks.isEmpty 1 ((msort ks).map fun x => sV x)) [] [] :=
 Ctr.sorted (et := 9) ⟨_, func27, rfl, rfl⟩ rfl ks hnd hs hk fun c b nn D0 w hm hc hown hmax => Tryz.slices_Sorted c b nn D0 _ w hc hm hown (Nat.le_trans hmax (by decide)) (by omega)
end Go.Proofs.Tryz
namespace Go.Graft
open Go.Sym
theorem parsR_id : ∀ (f : Nat) (s : Str) (l : List Str), (∀ p ∈ l, isId p = true) → ∀ s2 l2, parsR f s l = some (s2, l2) → ∀ p ∈ l2, isId p = true
 | 0, s, l, hl, s2, l2, he => by
  rw [parsR] at he
  cases he
  exact hl
 | f + 1, s, l, hl, s2, l2, he => by
  rw [parsR] at he
  split at he
  ·split at he
   ·rename_i hx
    refine parsR_id f _ _ (fun p hp => ?_) s2 l2 he
    rw [List.mem_append, List.mem_singleton] at hp
    rcases hp with hp | rfl
    ·exact hl p hp
    ·exact hx
   ·simp at he
  ·cases he
   exact hl
theorem comR_id (s : Str) : ∀ p ∈ (comR s).2.pars, isId p = true := by
 rw [comR]
 split
 ·simp [zeroCom]
 split
 ·simp [zeroCom]
 ·rename_i s2 l h
  have h1 := parsR_id _ _ _ (by simp) s2 l h
  simp only []
  split
  ·simp [zeroCom]
  split
  ·simp [zeroCom]
  split
  ·exact h1
  ·simp [zeroCom]
theorem isId_40 {x : Str} (h : isId x = true) : x.length = 40 := by
 rw [isId, Bool.and_eq_true, decide_eq_true_eq] at h
 exact h.1
theorem allP_40 {l : List It} {x : Str} (h : x ∈ allP l) : x.length = 40 := by
 obtain ⟨it, _, h⟩ := List.mem_flatMap.1 h
 rw [com_same] at h
 exact isId_40 (comR_id _ x h)
theorem rdE_len {l : List It} {x : Str} {B : Nat} (hid : ∀ y ∈ l, y.id.length ≤ B) (h : rdE l x = 0) : x.length ≤ B := by
 have hp := placed_lt (rdE_placed h)
 have := hid _ (bang_mem hp.1)
 rw [hp.2] at this
 exact this
theorem fresh_nil (f : List Str) : fresh [] f = f := by simp [fresh, hasS]
theorem seenL_take (N p : List Str) {k : Nat} (h : k < p.length) : seenL (N ++ p.take (k + 1)) = (mkeys (seenL (N ++ p.take k)).1 p[k]!, mset (seenL (N ++ p.take k)).1 (seenL (N ++ p.take k)).2 p[k]! true) := by
 rw [take_snoc p k h, ← List.append_assoc, seenL_snoc]
theorem seenL_nd {S : List Str} (h : S.Nodup) : (seenL S).1 = S := by
 have key : ∀ i, i ≤ S.length → (seenN S i).1 = S.take i := by
  intro i
  induction i with
  | zero => intro _; rfl
  | succ i ih =>
   intro hi
   rw [seenN, ih (by omega), take_snoc S i (by omega)]
   have hx : S[i]! ∉ S.take i := fun k => by
    obtain ⟨j, hj, e⟩ := List.mem_iff_getElem.1 k
    rw [List.getElem_take, getElem!_pos S i (by omega)] at e
    have := (List.getElem_inj h).1 e
    rw [List.length_take] at hj
    omega
   show mkeys (S.take i) S[i]! = _
   rw [mkeys, kidx_none.2 hx]
 rw [seenL, key _ (Nat.le_refl _), List.take_length]
structure DepW (l : List It) (cuts : List Str) (m : Nat) (D : List Str × List Str × Int) (k : Nat) (f S C : List Str) : Prop where
 nd : S.Nodup
 cnd : C.Nodup
 csub : ∀ x ∈ C, x ∈ S
 ok : ∀ x ∈ S, rdE l x = 0
 dep : if k < m then C = [] ∧ depR l cuts (m - k) (fresh S f) (sortS S) = D else D = (sortS S, sortS C, 0)
theorem DepW.start {l : List It} {cuts wants : List Str} {m : Nat} {D : List Str × List Str × Int} (hm : 1 ≤ m) (h : depR l cuts m wants [] = D) : DepW l cuts m D 0 wants [] [] :=
 ⟨List.nodup_nil, List.nodup_nil, by simp, by simp, by rw [if_pos (by omega), fresh_nil]; exact ⟨rfl, h⟩⟩
theorem DepW.zero {l : List It} {cuts f S C : List Str} {m k : Nat} {D : List Str × List Str × Int} (h : DepW l cuts m D k f S C) : DepI l cuts (decide (k + 1 = m)) f S C 0 ⟨S, C, []⟩ := .zero h.nd h.cnd h.csub
theorem DepW.bad {l : List It} {cuts f S C : List Str} {m k : Nat} {D : List Str × List Str × Int} (h : DepW l cuts m D k f S C) (hk : k < m) (he : errF l (fresh S f) ≠ 0) : D = ([], [], errF l (fresh S f)) := by
 have h1 := h.dep
 rw [if_pos hk] at h1
 have hne : fresh S f ≠ [] := fun e => by rw [e] at he; exact he rfl
 rw [← h1.2, show m - k = m - k - 1 + 1 by omega, depR, if_neg hne, if_pos he]
theorem DepW.next {l : List It} {cuts f f' S C : List Str} {m k : Nat} {D : List Str × List Str × Int} {d : Dep} (h : DepW l cuts m D k f S C) (hk : k < m) (hd : DepI l cuts (decide (k + 1 = m)) f S C f.length d) (hf : asc f') (hf' : ∀ x, x ∈ f' ↔ x ∈ d.N) : DepW l cuts m D (k + 1) f' d.S d.C := by
 have h1 := h.dep
 rw [if_pos hk] at h1
 obtain ⟨hC, h1⟩ := h1
 subst hC
 obtain ⟨s, c, n, e, nd, cnd, csub⟩ := hd
 rw [List.take_length] at s c n e
 refine ⟨nd, cnd, csub, fun x hx => ((s x).1 hx).elim (h.ok x) ((errF_zero l).1 e x), ?_⟩
 by_cases hne : fresh S f = []
 ·have hS : sortS d.S = sortS S := sortS_uniq fun x => by rw [s, hne]; simp
  have hC : d.C = [] := by
   rw [List.eq_nil_iff_forall_not_mem]
   intro x hx
   have := (c x).1 hx
   rw [hne] at this
   simp at this
  have hf2 : f' = [] := by
   rw [List.eq_nil_iff_forall_not_mem]
   intro x hx
   have := (n x).1 ((hf' x).1 hx)
   rw [hne] at this
   simp [flatP] at this
  rw [depR_none hne] at h1
  rw [hC, hf2, hS, ← h1]
  split
  ·exact ⟨rfl, by rw [← hS]; exact depR_none rfl⟩
  ·rfl
 by_cases hl : k + 1 = m
 ·rw [if_neg (by omega)]
  rw [show m - k = 0 + 1 by omega, depR, if_neg hne, if_neg (by simp [e]), if_pos rfl] at h1
  rw [← h1, show sortS (sortS S ++ fresh S f) = sortS d.S from sortS_uniq fun x => by rw [List.mem_append, sortS_mem, s], endsR]
  rw [show sortS d.C = sortS ((fresh S f).filter fun x => !(rdP l cuts x).isEmpty) from sortS_uniq fun x => by
   rw [c, List.mem_filter, decide_eq_true hl, Bool.not_eq_true', List.isEmpty_eq_false_iff]; simp]
 ·have hC : d.C = [] := by
   rw [List.eq_nil_iff_forall_not_mem]
   intro x hx
   have := (c x).1 hx
   rw [decide_eq_false hl] at this
   simp at this
  rw [if_pos (by omega)]
  refine ⟨hC, ?_⟩
  rw [← h1, show m - k = m - (k + 1) + 1 by omega]
  exact (depR_next s n hf hf' e hne (by omega)).symm
theorem DepW.done {l : List It} {cuts f S C : List Str} {m k : Nat} {D : List Str × List Str × Int} (h : DepW l cuts m D k f S C) (hk : ¬ k < m ∨ f = []) : D = (sortS S, sortS C, 0) := by
 have h1 := h.dep
 split at h1
 ·rename_i h2
  have hf := hk.resolve_left fun k => k h2
  subst hf
  rw [h1.1, ← h1.2]
  exact depR_none rfl
 ·exact h1
end Go.Graft
