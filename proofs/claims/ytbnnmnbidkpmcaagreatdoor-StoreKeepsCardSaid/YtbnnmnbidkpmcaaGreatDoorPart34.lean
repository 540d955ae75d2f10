/- A part of the proof: GOrd, GSto, Ta8, Hcl, GRea, Hso. -/
import Derived.Test.YtbnnmnbidkpmcaaGreatDoorPart33
set_option linter.unusedVariables false
set_option linter.unusedSimpArgs false
namespace Go.Graft
abbrev bl (a b : Str) : Bool := Op.bytesLess a b
theorem u8_tri (a b : UInt8) : a < b ∨ b < a ∨ a = b := by
 rcases Nat.lt_trichotomy a.toNat b.toNat with h | h | h
 ·exact .inl (UInt8.lt_iff_toNat_lt.2 h)
 ·exact .inr (.inr (UInt8.toNat.inj h))
 ·exact .inr (.inl (UInt8.lt_iff_toNat_lt.2 h))
theorem u8_irr (a : UInt8) : ¬ a < a := fun h => by have := UInt8.lt_iff_toNat_lt.1 h; omega
theorem u8_asym {a b : UInt8} (h : a < b) : ¬ b < a := fun h' => by
 have h3 := UInt8.lt_iff_toNat_lt.1 h; have h4 := UInt8.lt_iff_toNat_lt.1 h'; omega
theorem u8_trans {a b c : UInt8} (h : a < b) (h' : b < c) : a < c := by
 have h3 := UInt8.lt_iff_toNat_lt.1 h; have h4 := UInt8.lt_iff_toNat_lt.1 h'; exact UInt8.lt_iff_toNat_lt.2 (by omega)
theorem bl_cons (a b : UInt8) (x y : Str) : bl (a :: x) (b :: y) = true ↔ a < b ∨ (a = b ∧ bl x y = true) := by
 simp only [bl, Op.bytesLess]
 rcases u8_tri a b with h | h | h
 ·have hne : ¬ a = b := fun e => u8_irr b (e ▸ h)
  simp [h]
 ·have hne : ¬ a = b := fun e => u8_irr b (e ▸ h)
  have hnl := u8_asym h
  simp [hne, hnl]
 ·subst h
  simp
theorem bl_irr : ∀ a : Str, bl a a = false
 | [] => rfl
 | b :: r => by
  have ih := bl_irr r
  cases h : bl (b :: r) (b :: r) with
  | false => rfl
  | true =>
   rw [bl_cons] at h
   rcases h with h | h
   ·exact absurd h (u8_irr b)
   ·rw [ih] at h; simp at h
theorem bl_trans : ∀ {a b c : Str}, bl a b = true → bl b c = true → bl a c = true
 | [], b, [], _, h => by cases b <;> simp [bl, Op.bytesLess] at h
 | [], _, _ :: _, _, _ => rfl
 | a :: x, [], c, h, _ => by simp [bl, Op.bytesLess] at h
 | a :: x, b :: y, [], _, h => by simp [bl, Op.bytesLess] at h
 | a :: x, b :: y, c :: z, h, h' => by
  rw [bl_cons] at *
  rcases h with h | ⟨rfl, h⟩ <;> rcases h' with h' | ⟨rfl, h'⟩
  ·exact .inl (u8_trans h h')
  ·exact .inl h
  ·exact .inl h'
  ·exact .inr ⟨rfl, bl_trans h h'⟩
theorem bl_tri : ∀ a b : Str, bl a b = true ∨ bl b a = true ∨ a = b
 | [], [] => .inr (.inr rfl)
 | [], _ :: _ => .inl rfl
 | _ :: _, [] => .inr (.inl rfl)
 | a :: x, b :: y => by
  rw [bl_cons, bl_cons]
  rcases u8_tri a b with h | h | rfl
  ·exact .inl (.inl h)
  ·exact .inr (.inl (.inl h))
  ·rcases bl_tri x y with h | h | rfl
   ·exact .inl (.inr ⟨rfl, h⟩)
   ·exact .inr (.inl (.inr ⟨rfl, h⟩))
   ·exact .inr (.inr rfl)
theorem bl_asym {a b : Str} (h : bl a b = true) : bl b a = false := by
 cases h' : bl b a with
 | false => rfl
 | true => have := bl_trans h h'; rw [bl_irr] at this; simp at this
theorem bl_ne {a b : Str} (h : bl a b = true) : a ≠ b := fun e => by rw [e, bl_irr] at h; simp at h
theorem hvAt_spec (less : Nat → Bool) (hm : ∀ i j, i ≤ j → less j = true → less i = true) : ∀ (d lo hi : Nat), hi - lo = d → lo ≤ hi → (∀ i, i < lo → less i = true) → (∀ i, hi ≤ i → less i = false) →
  (∀ i, i < hvAt less lo hi → less i = true) ∧ ∀ i, hvAt less lo hi ≤ i → less i = false := by
 intro d
 induction d using Nat.strongRecOn with
 | _ d ih =>
  intro lo hi hd hle h1 h2
  by_cases h : lo < hi
  ·rw [hvAt_lt less lo hi h]
   split
   ·rename_i hl
    exact ih (hi - ((lo + hi) / 2 + 1)) (by omega) ((lo + hi) / 2 + 1) hi rfl (by omega) (fun i hi => hm i _ (by omega) hl) h2
   ·rename_i hl
    have hl : less ((lo + hi) / 2) = false := by simpa using hl
    refine ih ((lo + hi) / 2 - lo) (by omega) lo ((lo + hi) / 2) rfl (by omega) h1 fun i hi2 => ?_
    cases h3 : less i with
    | false => rfl
    | true => have := hm _ i hi2 h3; rw [hl] at this; simp at this
  ·rw [hvAt_ge less lo hi h]
   exact ⟨h1, fun i hi2 => h2 i (by omega)⟩
def asc (l : List Str) : Prop := l.Pairwise fun a b => bl a b = true
theorem asc_at {l : List Str} (h : asc l) {i j : Nat} (hij : i < j) (hj : j < l.length) : bl l[i]! l[j]! = true := by
 rw [getElem!_pos l i (by omega), getElem!_pos l j hj]
 exact List.pairwise_iff_getElem.1 h i j (by omega) hj hij
theorem asc_nodup {l : List Str} (h : asc l) : l.Nodup := h.imp bl_ne
theorem spot_spec {l : List Str} (h : asc l) (x : Str) : spot l x ≤ l.length ∧ (∀ i, i < spot l x → bl l[i]! x = true) ∧ ∀ i, spot l x ≤ i → i < l.length → bl l[i]! x = false := by
 have key := hvAt_spec (fun i => decide (i < l.length) && bl l[i]! x) (fun i j hij hj => by
  simp only [Bool.and_eq_true, decide_eq_true_eq] at hj ⊢
  refine ⟨by omega, ?_⟩
  by_cases e : i = j
  ·subst e; exact hj.2
  ·exact bl_trans (asc_at h (by omega) hj.1) hj.2) l.length 0 l.length (by omega) (by omega) (fun i hi => by omega) (fun i hi => by simp; omega)
 have e : hvAt (fun i => decide (i < l.length) && bl l[i]! x) 0 l.length = spot l x := by
  rw [spot, halve_eq]
  have gen : ∀ (d lo hi : Nat), hi - lo = d → hi ≤ l.length → hvAt (fun i => decide (i < l.length) && bl l[i]! x) lo hi = hvAt (fun i => Op.bytesLess l[i]! x) lo hi := by
   intro d
   induction d using Nat.strongRecOn with
   | _ d ih =>
    intro lo hi hd hle
    by_cases hlt : lo < hi
    ·rw [hvAt_lt _ lo hi hlt, hvAt_lt _ lo hi hlt, decide_eq_true (by omega : (lo + hi) / 2 < l.length), Bool.true_and]
     split
     ·exact ih _ (by omega) _ _ rfl hle
     ·exact ih _ (by omega) _ _ rfl (by omega)
    ·rw [hvAt_ge _ lo hi hlt, hvAt_ge _ lo hi hlt]
  exact gen _ 0 l.length rfl (Nat.le_refl _)
 rw [e] at key
 have hle := (hvAt_le (fun i => Op.bytesLess l[i]! x) _ 0 l.length rfl (by omega)).2
 rw [← halve_eq] at hle
 refine ⟨hle, fun i hi => ?_, fun i h1 h2 => ?_⟩
 ·have := key.1 i hi; simp only [Bool.and_eq_true] at this; exact this.2
 ·have := key.2 i h1
  simp only [Bool.and_eq_false_iff, decide_eq_false_iff_not] at this
  exact this.resolve_left (by omega)
def holdsP (l : List Str) (x : Str) : Bool := decide (spot l x < l.length) && decide (l[spot l x]! = x)
theorem holds_iff {l : List Str} (h : asc l) (x : Str) : holdsP l x = true ↔ x ∈ l := by
 obtain ⟨h1, h2, h3⟩ := spot_spec h x
 simp only [holdsP, Bool.and_eq_true, decide_eq_true_eq]
 constructor
 ·rintro ⟨h4, h5⟩
  rw [← h5, getElem!_pos l _ h4]
  exact List.getElem_mem h4
 ·intro hx
  obtain ⟨i, hi, rfl⟩ := List.getElem_of_mem hx
  have e : spot l l[i] = i := by
   rcases Nat.lt_trichotomy (spot l l[i]) i with h4 | h4 | h4
   ·have := h3 _ (Nat.le_refl _) (by omega)
    have h5 := asc_at h h4 hi
    rw [getElem!_pos l i hi] at h5
    rw [h5] at this; simp at this
   ·exact h4
   ·have := h2 i h4
    rw [getElem!_pos l i hi, bl_irr] at this; simp at this
  rw [e, getElem!_pos l i hi]
  exact ⟨hi, rfl⟩
def insS (l : List Str) (x : Str) : List Str := if holdsP l x = true then l else l.take (spot l x) ++ [x] ++ l.drop (spot l x)
theorem insS_mem {l : List Str} (x y : Str) (h : asc l) : y ∈ insS l x ↔ y = x ∨ y ∈ l := by
 rw [insS]
 split
 ·rename_i hx
  have := (holds_iff h x).1 hx
  constructor
  ·exact .inr
  ·rintro (rfl | h); exact this; exact h
 ·rw [List.mem_append, List.mem_append, List.mem_singleton]
  have e : y ∈ l ↔ y ∈ l.take (spot l x) ∨ y ∈ l.drop (spot l x) := by rw [← List.mem_append, List.take_append_drop]
  rw [e]
  constructor
  ·rintro ((h | h) | h)
   ·exact .inr (.inl h)
   ·exact .inl h
   ·exact .inr (.inr h)
  ·rintro (h | h | h)
   ·exact .inl (.inr h)
   ·exact .inl (.inl h)
   ·exact .inr h
theorem insS_asc {l : List Str} (x : Str) (h : asc l) : asc (insS l x) := by
 rw [insS]
 split
 ·exact h
 ·rename_i hx
  obtain ⟨h1, h2, h3⟩ := spot_spec h x
  have h4 : ∀ i, spot l x ≤ i → i < l.length → bl x l[i]! = true := by
   intro i hi hil
   have h5 := h3 i hi hil
   rcases bl_tri x l[i]! with h6 | h6 | h6
   ·exact h6
   ·rw [h5] at h6; simp at h6
   ·exfalso
    apply hx
    rw [holds_iff h]
    rw [h6, getElem!_pos l i hil]
    exact List.getElem_mem hil
  have ht : ∀ a ∈ l.take (spot l x), bl a x = true := by
   intro a ha
   obtain ⟨i, hi, rfl⟩ := List.getElem_of_mem ha
   rw [List.length_take] at hi
   have := h2 i (by omega)
   rw [getElem!_pos l i (by omega)] at this
   rw [List.getElem_take]; exact this
  have hd : ∀ b ∈ l.drop (spot l x), bl x b = true := by
   intro b hb
   obtain ⟨i, hi, rfl⟩ := List.getElem_of_mem hb
   rw [List.length_drop] at hi
   have := h4 (spot l x + i) (by omega) (by omega)
   rw [getElem!_pos l _ (by omega)] at this
   rw [List.getElem_drop]; exact this
  rw [asc, List.append_assoc, List.pairwise_append]
  refine ⟨h.sublist (List.take_sublist _ _), ?_, ?_⟩
  ·rw [List.singleton_append, List.pairwise_cons]
   exact ⟨hd, h.sublist (List.drop_sublist _ _)⟩
  ·intro a ha b hb
   rw [List.singleton_append, List.mem_cons] at hb
   rcases hb with rfl | hb
   ·exact ht a ha
   ·exact bl_trans (ht a ha) (hd b hb)
theorem asc_unique : ∀ {a b : List Str}, asc a → asc b → (∀ x, x ∈ a ↔ x ∈ b) → a = b
 | [], [], _, _, _ => rfl
 | [], y :: b, _, _, h => by have := (h y).2 (by simp); simp at this
 | x :: a, [], _, _, h => by have := (h x).1 (by simp); simp at this
 | x :: a, y :: b, ha, hb, h => by
  have ha' := List.pairwise_cons.1 ha
  have hb' := List.pairwise_cons.1 hb
  have e : x = y := by
   rcases List.mem_cons.1 ((h x).1 (by simp)) with e | hx
   ·exact e
   ·rcases List.mem_cons.1 ((h y).2 (by simp)) with e | hy
    ·exact e.symm
    ·have h1 := hb'.1 x hx
     have h2 := ha'.1 y hy
     rw [bl_asym h1] at h2; simp at h2
  subst e
  congr 1
  refine asc_unique ha'.2 hb'.2 fun z => ?_
  have hz := h z
  rw [List.mem_cons, List.mem_cons] at hz
  constructor
  ·intro hza
   rcases hz.1 (.inr hza) with rfl | h5
   ·have := ha'.1 z hza; rw [bl_irr] at this; simp at this
   ·exact h5
  ·intro hzb
   rcases hz.2 (.inr hzb) with rfl | h5
   ·have := hb'.1 z hzb; rw [bl_irr] at this; simp at this
   ·exact h5
def sortN (l : List Str) : Nat → List Str
 | 0 => []
 | i + 1 => insS (sortN l i) l[i]!
theorem sortN_asc (l : List Str) : ∀ i, asc (sortN l i)
 | 0 => .nil
 | i + 1 => insS_asc _ (sortN_asc l i)
theorem sortN_mem (l : List Str) (x : Str) : ∀ i, i ≤ l.length → (x ∈ sortN l i ↔ x ∈ l.take i)
 | 0, _ => by simp [sortN]
 | i + 1, h => by
  rw [sortN, insS_mem _ _ (sortN_asc l i), sortN_mem l x i (by omega), take_snoc l i (by omega), List.mem_append, List.mem_singleton, or_comm]
def sortS (l : List Str) : List Str := sortN l l.length
theorem sortS_asc (l : List Str) : asc (sortS l) := sortN_asc l _
theorem sortS_mem (l : List Str) (x : Str) : x ∈ sortS l ↔ x ∈ l := by rw [sortS, sortN_mem l x _ (Nat.le_refl _), List.take_length]
theorem insS_len (l : List Str) (x : Str) : (insS l x).length ≤ l.length + 1 := by
 rw [insS]
 split
 ·omega
 ·simp only [List.length_append, List.length_take, List.length_drop, List.length_singleton]; omega
theorem sortN_len (l : List Str) : ∀ i, (sortN l i).length ≤ i
 | 0 => Nat.le_refl _
 | i + 1 => by have := sortN_len l i; have := insS_len (sortN l i) l[i]!; rw [sortN]; omega
theorem holds_sort (l : List Str) (x : Str) : holdsP (sortS l) x = hasS l x := by
 rw [Bool.eq_iff_iff, holds_iff (sortS_asc l), sortS_mem, hasS, decide_eq_true_eq]
end Go.Graft
namespace Go.Graft
open Go.Sym
def nmsOf (k : Int) (b : Str) (cut : Bool) : List Str := if (cut && decide (k = 3)) = true then (linksOf k b).take 1 else linksOf k b
theorem dedup_len (l : List Str) : (dedup l).length ≤ l.length := dedN_len l _
theorem linksOf_len (k : Int) (b : Str) : (linksOf k b).length ≤ 1048577 := by
 rw [linksOf]
 split
 ·simp
 ·rename_i h
  have h1 := namesOf_len k b
  have h2 := dedup_len (namesOf k b)
  have h3 : objErr k b = 0 := by
   have h : wholeE k b = 0 := by simpa using h
   rw [wholeE] at h
   by_cases h2 : objErr k b ≠ 0
   ·rw [if_pos h2] at h; exact h
   ·simpa using h2
  have h4 := objErr_len h3
  omega
def itemBad (l : List It) (i : Nat) : Bool := (decide (0 < (i : Int)) && !Op.bytesLess l[i - 1]!.id l[i]!.id) || !decide (wholeE l[i]!.kind l[i]!.body = 0) || !decide (objId l[i]!.kind l[i]!.body = l[i]!.id)
def rightSt (l : List It) : Bool := decide ((l.length : Int) ≤ 65536) && (List.range l.length).all fun i => !itemBad l i
theorem right_big {l : List It} (h : (65536 : Int) < l.length) : rightSt l = false := by rw [rightSt, decide_eq_false (by omega)]; rfl
theorem right_no {l : List It} {i : Nat} (h : i < l.length) (hb : itemBad l i = true) : rightSt l = false := by
 rw [rightSt, Bool.and_eq_false_iff]
 right
 rw [List.all_eq_false]
 exact ⟨i, List.mem_range.2 h, by rw [hb]; simp⟩
theorem right_yes {l : List It} (h0 : (l.length : Int) ≤ 65536) (h : ∀ i, i < l.length → itemBad l i = false) : rightSt l = true := by
 rw [rightSt, decide_eq_true h0, Bool.true_and, List.all_eq_true]
 intro i hi
 rw [h i (List.mem_range.1 hi)]; rfl
def clashP (l : List It) (k : Int) (b : Str) : Bool := placed l (objId k b) && !(decide (l[place l (objId k b)]!.kind = k) && decide (l[place l (objId k b)]!.body = b))
def putE (l : List It) (k : Int) (b : Str) : Int := if wholeE k b ≠ 0 then wholeE k b else if clashP l k b = true then 170 else if (!placed l (objId k b) && decide ((65536 : Int) ≤ l.length)) = true then 4 else 0
def putL (l : List It) (k : Int) (b : Str) : List It := if putE l k b ≠ 0 then [] else if placed l (objId k b) = true then l else l.take (place l (objId k b)) ++ (⟨objId k b, k, b⟩ :: l.drop (place l (objId k b)))
def putI (l : List It) (k : Int) (b : Str) : Str := if putE l k b ≠ 0 then [] else objId k b
theorem place_le (l : List It) (x : Str) : place l x ≤ l.length := by
 rw [place, halve_eq]; exact (hvAt_le _ _ 0 l.length rfl (Nat.zero_le _)).2
theorem placed_lt {l : List It} {x : Str} (h : placed l x = true) : place l x < l.length ∧ l[place l x]!.id = x := by
 simp only [placed, Bool.and_eq_true, decide_eq_true_eq] at h
 exact ⟨by omega, h.2⟩
def uni : List It → List It → List It
 | [], b => b
 | x :: a, [] => x :: a
 | x :: a, y :: b => if Op.bytesLess x.id y.id = true then x :: uni a (y :: b) else if Op.bytesLess y.id x.id = true then y :: uni (x :: a) b else x :: uni a b
 termination_by a b => a.length + b.length
def uniC : List It → List It → Bool
 | [], _ => false
 | _ :: _, [] => false
 | x :: a, y :: b => if Op.bytesLess x.id y.id = true then uniC a (y :: b) else if Op.bytesLess y.id x.id = true then uniC (x :: a) b else (!decide (x = y) || uniC a b)
 termination_by a b => a.length + b.length
theorem uni_len : ∀ (n : Nat) (a b : List It), a.length + b.length = n → (uni a b).length ≤ a.length + b.length := by
 intro n
 induction n using Nat.strongRecOn with
 | _ n ih =>
  intro a b h
  cases a with
  | nil => rw [uni]; omega
  | cons x a =>
   cases b with
   | nil => rw [uni]; omega
   | cons y b =>
    rw [uni]
    split
    ·have := ih _ (by simp only [List.length_cons] at *; omega) a (y :: b) rfl
     simp only [List.length_cons] at *; omega
    split
    ·have := ih _ (by simp only [List.length_cons] at *; omega) (x :: a) b rfl
     simp only [List.length_cons] at *; omega
    ·have := ih _ (by simp only [List.length_cons] at *; omega) a b rfl
     simp only [List.length_cons] at *; omega
def unionE (a b : List It) : Int := if uniC a b = true then 170 else if (65536 : Int) < (uni a b).length then 4 else 0
def unionL (a b : List It) : List It := if unionE a b ≠ 0 then [] else uni a b
end Go.Graft
namespace Go.Proofs.Tryz
open Go Go.Sym Go.Graft
set_option maxRecDepth 20000
abbrev perX : Per := ⟨[97], [97, 64, 98], 5, 60⟩
theorem cPerson : Ctr prog 38 [] [] (.agg [sV [97], sV [97, 64, 98], iV 5, iV 60]) [] [] := by
 refine Ctr.enter tblOk func38 rfl (by decide) rfl (nt := 2) rfl rfl rfl rfl ?_
 refine Trip.sr tblOk ?_
 refine Trip.sr tblOk ?_
 refine Trip.ret (rt1 [])
theorem cNum5 : Ctr prog 106 [iV 5] [] (sV [53]) [] [] := by
 refine Ctr.enter tblOk func106 rfl (by decide) rfl (nt := 23) rfl rfl rfl rfl ?_
 refine Trip.sr tblOk ?_
 refine Trip.sr tblOk ?_
 refine Trip.seq (Trip.block ?_)
 refine Trip.loop (fun (_ : Nat) => ⟨[(0, iV 5), (3, sV [])], []⟩) (fun (_ : Nat) => True) (fun (_ : Nat) => 0) (0) (by trivial) Weak.kp ?_
 intro i _
 refine Trip.seq (Trip.sr tblOk ?_)
 apply Trip.cond (.tmp rfl)
 ·intro h
  exact absurd h (by decide)
 intro h
 refine Trip.exit (Trip.sR tblOk (by repeat' (first | exact rfl | (apply Rule.sem; intro hγ; with_reducible apply F_bytesToString (dst := some 20) (l := [53]) tblOk hγ) | ((with_reducible refine Side.mk ?_); first | omega | (simp only [ln]; first | done | omega)) | constructor)) ?_)
 refine Trip.ret (rt1 [])
abbrev whoX : Str := [97, 32, 60, 97, 64, 98, 62, 32, 53, 32, 43, 48, 49, 48, 48]
theorem cWhoX : Ctr prog 68 [.agg [sV [97], sV [97, 64, 98], iV 5, iV 60]] [] (sV whoX) [] [] := by
 have c := cNum5
 refine Ctr.enter tblOk func68 rfl (by decide) rfl (nt := 48) rfl rfl rfl rfl ?_
 refine Trip.sr tblOk ?_
 refine Trip.dk ⟨[(1, .ref 1 0), (3, sV [43]), (4, iV 60)], [(1, .box [sV [97], sV [97, 64, 98], iV 5, iV 60])]⟩ tblOk mixed (by repeat' (first | exact rfl | constructor)) Weak.kp ?_
 refine Trip.seq (Trip.sr tblOk ?_)
 apply Trip.cond (.tmp rfl)
 ·intro h
  exact absurd h (by decide)
 intro h
 refine Trip.skip (Trip.sR tblOk (by repeat' (first | exact rfl | (apply Rule.sem; intro hγ; with_reducible apply F_bytesToString (dst := some 31) (l := [48, 49, 48, 48]) tblOk hγ) | ((with_reducible refine Side.mk ?_); omega) | constructor)) ?_)
 refine Trip.sD tblOk mixed (by repeat' (first | exact rfl | (apply Rule.sem; intro hγ; with_reducible apply F_call0 (x := .func 106) (B := []) hγ (hspec := c)) | ((with_reducible refine Side.mk ?_); first | exact .inl rfl | (simp only [ln]; first | done | omega)) | constructor)) ?_
 refine Trip.ret (rt1 [])
def bodyX (t : Str) : Str := [116, 114, 101, 101, 32] ++ t ++ [10] ++ [97, 117, 116, 104, 111, 114, 32] ++ whoX ++ [10, 99, 111, 109, 109, 105, 116, 116, 101, 114, 32] ++ whoX ++ [10, 10] ++ [120, 10]
abbrev comX (t : Str) : Com := ⟨t, [], perX, perX, [120, 10]⟩
theorem cBodyX (t : Str) (hl : t.length ≤ 1000) (hc : comE (comX t) = 0) : Ctr prog 37 [(comX t).pv true] [] (.tup [sV (bodyX t), iV 0]) [] [] := by
 have c1 := cComE16 true (comX t) (by dsimp only; omega) (by simp) (by simp) (by simp) (by simp) (by simp)
 rw [hc] at c1
 have c2 := cWhoX
 have hWl : whoX.length = 15 := rfl
 rw [bodyX]
 generalize whoX = W at *
 refine Ctr.enter tblOk func37 rfl (by decide) rfl (nt := 47) rfl rfl rfl rfl ?_
 refine Trip.sr tblOk ?_
 refine Trip.sR tblOk (by repeat' (first | exact rfl | (apply Rule.sem; intro hγ; with_reducible apply F_call0 (x := .func 67) (B := []) hγ (hspec := c1)) | ((with_reducible refine Side.mk ?_); exact .inl rfl) | constructor)) ?_
 refine Trip.seq (Trip.sr tblOk ?_)
 apply Trip.cond (.tmp rfl)
 ·intro h
  exact absurd h (by decide)
 intro h
 refine Trip.skip (Trip.sR tblOk (by repeat' (first | exact rfl | ((with_reducible refine Side.mk ?_); (simp only [ln]; first | done | omega)) | constructor)) ?_)
 refine Trip.seq (Trip.sr tblOk ?_)
 refine Trip.block ?_
 refine Trip.loop (fun (_ : Nat) => ⟨[(1, .ref 1 0), (5, sV ([116, 114, 101, 101, 32] ++ t ++ [10])), (6, iV 0)], [(1, .box [sV t, .sl true 1 [], sV [97], sV [97, 64, 98], iV 5, iV 60, sV [97], sV [97, 64, 98], iV 5, iV 60, sV [120, 10]])]⟩) (fun (_ : Nat) => True) (fun (_ : Nat) => 0) (0) (by trivial) Weak.kp ?_
 intro i _
 refine Trip.seq (Trip.sr tblOk ?_)
 apply Trip.cond (.tmp rfl)
 ·intro h
  exact absurd h (by decide)
 intro h
 refine Trip.exit (Trip.sD tblOk mixed (by repeat' (first | exact rfl | (apply Rule.sem; intro hγ; with_reducible apply F_call0 (dst := some 36) (x := .func 68) (B := []) hγ (hspec := c2)) | (apply Rule.sem; intro hγ; with_reducible apply F_call0 (dst := some 41) (x := .func 68) (B := []) hγ (hspec := c2)) | ((with_reducible refine Side.mk ?_); first | exact .inl rfl | (simp only [ln]; first | done | omega)) | constructor)) ?_)
 refine Trip.ret (rt2 [])
end Go.Proofs.Tryz
namespace Go.Proofs.Tryz
open Go Go.Sym Go.Graft
set_option maxRecDepth 20000
set_option maxHeartbeats 400000 in
theorem cClone (nl : Bool) (es : List PV) (hnl : nl = true → es = []) (hp : plainL es = true) (hc : cellsOkL (cellsOf es) = true) (hb : es.length ≤ 1000000000000) :
  Ctr prog 45 [.sl nl 3 es] [] (.osl FN 0 es.length es.length) [] [.arr 3 nl es] := by
 refine Ctr.enter tblOk func45 rfl (by decide) rfl (nt := 8) rfl rfl rfl rfl ?_
 refine Trip.seq ?_
 apply Trip.reg tblOk
 ·repeat' (first | exact rfl | constructor)
 ·exact rfl
 refine Trip.seq ?_
 refine Trip.seq ?_
 apply Trip.reg tblOk
 ·repeat' (first | exact rfl | constructor)
 ·exact rfl
 apply Trip.cond (.tmp rfl)
 ·intro hn
  have := hnl hn
  subst this
  subst hn
  refine Trip.seq ?_
  apply Trip.reg tblOk
  ·repeat' (first | exact rfl | constructor)
  ·exact rfl
  apply Trip.weak (Weak.adopt (t' := [(2, .osl 900 0 0 0)]) (o' := []) 900 3 rfl rfl (by repeat' (first | exact rfl | constructor)) (by repeat' (first | exact rfl | constructor)))
  refine Trip.ret ?_
  refine ⟨_, _, [900], [], [], [.arr 3 true []], .cons rfl .nil, .one, .nil, .cons rfl .nil, rfl, rfl, rfl, .nil, ?_, ?_⟩
  all_goals repeat' (first | exact rfl | constructor)
 ·intro hn
  have hn : nl = false := hn
  subst hn
  refine Trip.skip ?_
  apply Trip.regk ⟨[(2, .osl 5 0 es.length es.length)], [(5, .arr 3 false es)]⟩ tblOk
  ·repeat' (first | exact rfl | exact hc | exact Nat.le_trans (by simp; omega) (Nat.le_refl _) | constructor)
  ·exact rfl
  ·apply Weak.keep
   ·exact rfl
   ·repeat' (first | exact rfl | constructor)
   ·repeat' (first | exact rfl | constructor)
   ·exact rfl
   ·repeat' (first | exact rfl | exact hp | constructor)
  refine Trip.ret ?_
  refine ⟨_, _, [5], [], [], [.arr 3 false es], .cons rfl .nil, .one, .nil, .cons rfl .nil, rfl, rfl, rfl, .nil, ?_, ?_⟩
  all_goals repeat' (first | exact rfl | exact hp | constructor)
end Go.Proofs.Tryz
namespace Go.Graft
open Go.Sym
def seenL (l : List Str) : List Str × List Bool := seenN l l.length
theorem seenN_app (l m : List Str) : ∀ i, i ≤ l.length → seenN (l ++ m) i = seenN l i
 | 0, _ => rfl
 | i + 1, h => by
  have ih := seenN_app l m i (by omega)
  have e : (l ++ m)[i]! = l[i]! := by
   rw [getElem!_pos _ i (by rw [List.length_append]; omega), getElem!_pos _ i (by omega), List.getElem_append_left]
  rw [seenN, seenN, ih, e]
theorem seenL_snoc (l : List Str) (x : Str) : seenL (l ++ [x]) = (mkeys (seenL l).1 x, mset (seenL l).1 (seenL l).2 x true) := by
 have e : (l ++ [x])[l.length]! = x := by
  rw [getElem!_pos _ l.length (by simp)]; simp
 rw [seenL, List.length_append, List.length_singleton, seenN, seenN_app l [x] _ (Nat.le_refl _), e]
 rfl
theorem seenL_len (l : List Str) : (seenL l).1.length = (seenL l).2.length := seenN_len l _
theorem seenL_val (l : List Str) (y : Str) : mval (seenL l).1 (seenL l).2 false y = hasS l y := by
 rw [seenL, seenN_val l y _ (Nat.le_refl _), List.take_length]
theorem hasS_iff (l : List Str) (x : Str) : hasS l x = true ↔ x ∈ l := by
 simp [hasS]
def nmAt (l : List It) (cuts : List Str) (x : Str) : List Str := nmsOf l[place l x]!.kind l[place l x]!.body (hasS cuts x)
inductive Rch (l : List It) (cuts frm : List Str) : Str → Prop
 | start {x : Str} : x ∈ frm → Rch l cuts frm x
 | step {x y : Str} : Rch l cuts frm x → placed l x = true → y ∈ nmAt l cuts x → Rch l cuts frm y
structure IsReach (l : List It) (cuts frm have' lack : List Str) : Prop where
 a1 : asc have'
 a2 : asc lack
 m1 : ∀ x, x ∈ have' ↔ Rch l cuts frm x ∧ placed l x = true
 m2 : ∀ x, x ∈ lack ↔ Rch l cuts frm x ∧ placed l x = false
theorem IsReach.uniq {l : List It} {cuts frm a b c d : List Str} (h : IsReach l cuts frm a b) (k : IsReach l cuts frm c d) : a = c ∧ b = d :=
 ⟨asc_unique h.a1 k.a1 fun x => (h.m1 x).trans (k.m1 x).symm, asc_unique h.a2 k.a2 fun x => (h.m2 x).trans (k.m2 x).symm⟩
structure Onway (l : List It) (cuts frm met next : List Str) : Prop where
 nd : met.Nodup
 r1 : ∀ x ∈ met, Rch l cuts frm x
 r2 : ∀ x ∈ next, Rch l cuts frm x
 f : ∀ x ∈ frm, x ∈ met ∨ x ∈ next
 c : ∀ x ∈ met, placed l x = true → ∀ y ∈ nmAt l cuts x, y ∈ met ∨ y ∈ next
theorem Onway.start (l : List It) (cuts frm : List Str) : Onway l cuts frm [] frm :=
 ⟨List.nodup_nil, by simp, fun x h => .start h, fun x h => .inr h, by simp⟩
theorem Onway.old {l : List It} {cuts frm met next next' : List Str} {x : Str} (h : Onway l cuts frm met next) (hn : ∀ y, y ∈ next ↔ y = x ∨ y ∈ next') (hx : x ∈ met) : Onway l cuts frm met next' where
 nd := h.nd
 r1 := h.r1
 r2 := fun y hy => h.r2 y ((hn y).2 (.inr hy))
 f := fun y hy => (h.f y hy).elim .inl fun k => ((hn y).1 k).elim (fun e => .inl (e ▸ hx)) .inr
 c := fun y hy hp z hz => (h.c y hy hp z hz).elim .inl fun k => ((hn z).1 k).elim (fun e => .inl (e ▸ hx)) .inr
theorem Onway.new {l : List It} {cuts frm met next next' met' : List Str} {x : Str} (h : Onway l cuts frm met next) (hn : ∀ y, y ∈ next → y = x ∨ y ∈ next') (hn2 : ∀ y, y ∈ next' → y ∈ next ∨ (placed l x = true ∧ y ∈ nmAt l cuts x)) (hxn : x ∈ next)
  (hx : x ∉ met) (hm : ∀ y, y ∈ met' ↔ y = x ∨ y ∈ met) (hnd : met'.Nodup) (hc : placed l x = true → ∀ y ∈ nmAt l cuts x, y ∈ next') : Onway l cuts frm met' next' where
 nd := hnd
 r1 := fun y hy => ((hm y).1 hy).elim (fun e => e ▸ h.r2 x hxn) (h.r1 y)
 r2 := fun y hy => (hn2 y hy).elim (h.r2 y) fun k => .step (h.r2 x hxn) k.1 k.2
 f := fun y hy => (h.f y hy).elim (fun k => .inl ((hm y).2 (.inr k))) fun k => (hn y k).elim (fun e => .inl ((hm y).2 (.inl e))) .inr
 c := fun y hy hp z hz => ((hm y).1 hy).elim (fun e => by subst e; exact .inr (hc hp z hz)) fun k => (h.c y k hp z hz).elim (fun k => .inl ((hm z).2 (.inr k))) fun k => (hn z k).elim (fun e => .inl ((hm z).2 (.inl e))) .inr
theorem Onway.done {l : List It} {cuts frm met : List Str} (h : Onway l cuts frm met []) (x : Str) : x ∈ met ↔ Rch l cuts frm x := by
 refine ⟨h.r1 x, fun hx => ?_⟩
 induction hx with
 | start hx => exact (h.f _ hx).elim id fun k => by simp at k
 | step _ hp hy ih => exact (h.c _ ih hp _ hy).elim id fun k => by simp at k
def toCome (l : List It) (cuts met : List Str) : List It → Nat
 | [] => 0
 | it :: r => (if hasS met it.id = true then 0 else 1 + (nmAt l cuts it.id).length) + toCome l cuts met r
theorem toCome_mono (l : List It) (cuts : List Str) {met met' : List Str} (h : ∀ x, x ∈ met → x ∈ met') : ∀ r, toCome l cuts met' r ≤ toCome l cuts met r
 | [] => Nat.le_refl _
 | it :: r => by
  have ih := toCome_mono l cuts h r
  simp only [toCome]
  by_cases h1 : hasS met it.id = true
  ·have h2 : hasS met' it.id = true := (hasS_iff _ _).2 (h _ ((hasS_iff _ _).1 h1))
   rw [if_pos h1, if_pos h2]; omega
  ·rw [if_neg h1]
   split <;> omega
theorem toCome_new (l : List It) (cuts : List Str) {met met' : List Str} {x : Str} (h : ∀ y, y ∈ met' ↔ y = x ∨ y ∈ met) (hx : x ∉ met) : ∀ r : List It, (∃ it ∈ r, it.id = x) → toCome l cuts met' r + 1 + (nmAt l cuts x).length ≤ toCome l cuts met r
 | [], hr => by simp at hr
 | it :: r, hr => by
  have hm := toCome_mono l cuts (met := met) (met' := met') (fun y hy => (h y).2 (.inr hy)) r
  simp only [toCome]
  by_cases e : it.id = x
  ·have h1 : ¬ hasS met it.id = true := fun k => hx (e ▸ (hasS_iff _ _).1 k)
   have h2 : hasS met' it.id = true := (hasS_iff _ _).2 ((h _).2 (.inl e))
   rw [if_neg h1, if_pos h2, e]; omega
  ·have ih := toCome_new l cuts h hx r (by
    obtain ⟨it', hm', he'⟩ := hr
    rcases List.mem_cons.1 hm' with rfl | hm'
    ·exact absurd he' e
    ·exact ⟨it', hm', he'⟩)
   have h3 : hasS met' it.id = hasS met it.id := by
    rw [Bool.eq_iff_iff, hasS_iff, hasS_iff, h]
    exact ⟨fun k => k.resolve_left e, .inr⟩
   rw [h3]; omega
theorem toCome_le (l : List It) (cuts met : List Str) : ∀ r : List It, toCome l cuts met r ≤ r.length * 1048578
 | [] => Nat.le_refl _
 | it :: r => by
  have ih := toCome_le l cuts met r
  have h : (nmAt l cuts it.id).length ≤ 1048577 := by
   rw [nmAt, nmsOf]
   have := linksOf_len l[place l it.id]!.kind l[place l it.id]!.body
   split
   ·rw [List.length_take]; omega
   ·exact this
  simp only [toCome, List.length_cons, Nat.succ_mul]
  split <;> omega
theorem placed_mem {l : List It} {x : Str} (h : placed l x = true) : ∃ it ∈ l, it.id = x := by
 obtain ⟨h1, h2⟩ := placed_lt h
 rw [getElem!_pos l _ h1] at h2
 exact ⟨_, List.getElem_mem h1, h2⟩
theorem nmAt_len (l : List It) (cuts : List Str) (x : Str) : (nmAt l cuts x).length ≤ 1048577 := by
 rw [nmAt, nmsOf]
 have := linksOf_len l[place l x]!.kind l[place l x]!.body
 split
 ·rw [List.length_take]; omega
 ·exact this
theorem Onway.reach {l : List It} {cuts frm met a b : List Str} (h : Onway l cuts frm met []) (ha : asc a) (hb : asc b) (h1 : ∀ x, x ∈ a ↔ x ∈ met.filter (placed l)) (h2 : ∀ x, x ∈ b ↔ x ∈ met.filter fun x => !placed l x) : IsReach l cuts frm a b :=
 ⟨ha, hb, fun x => by rw [h1, List.mem_filter, h.done], fun x => by rw [h2, List.mem_filter, h.done]; simp⟩
open Classical in
theorem reach_ex (l : List It) (cuts frm : List Str) : ∃ a b, IsReach l cuts frm a b := by
 have hmem : ∀ x, Rch l cuts frm x → x ∈ frm ++ l.flatMap fun it => nmAt l cuts it.id := by
  intro x hx
  cases hx with
  | start h => simp [h]
  | step h1 h2 h3 =>
   obtain ⟨it, hi, rfl⟩ := placed_mem h2
   rw [List.mem_append, List.mem_flatMap]
   exact .inr ⟨it, hi, h3⟩
 refine ⟨sortS ((frm ++ l.flatMap fun it => nmAt l cuts it.id).filter fun x => decide (Rch l cuts frm x ∧ placed l x = true)), sortS ((frm ++ l.flatMap fun it => nmAt l cuts it.id).filter fun x => decide (Rch l cuts frm x ∧ placed l x = false)), sortS_asc _, sortS_asc _, fun x => ?_, fun x => ?_⟩
 all_goals
  rw [sortS_mem, List.mem_filter, decide_eq_true_eq]
  exact ⟨fun h => h.2, fun h => ⟨hmem x h.1, h⟩⟩
end Go.Graft
namespace Go.Proofs.Tryz
open Go Go.Sym Go.Graft
set_option maxRecDepth 20000
set_option maxHeartbeats 400000 in
theorem cCloneS (nl : Bool) (es : List PV) (hnl : nl = true → es = []) (hp : plainL es = true) (hc : cellsOkL (cellsOf es) = true) (hb : es.length ≤ 1000000000000) :
  Ctr prog 93 [.sl nl 1 es] [] (.osl FN 0 es.length es.length) [] [.arr 1 nl es] := by
 refine Ctr.enter tblOk func93 rfl (by decide) rfl (nt := 8) rfl rfl rfl rfl ?_
 refine Trip.seq ?_
 apply Trip.reg tblOk
 ·repeat' (first | exact rfl | constructor)
 ·exact rfl
 refine Trip.seq ?_
 refine Trip.seq ?_
 apply Trip.reg tblOk
 ·repeat' (first | exact rfl | constructor)
 ·exact rfl
 apply Trip.cond (.tmp rfl)
 ·intro hn
  have := hnl hn
  subst this
  subst hn
  refine Trip.seq ?_
  apply Trip.reg tblOk
  ·repeat' (first | exact rfl | constructor)
  ·exact rfl
  apply Trip.weak (Weak.adopt (t' := [(2, .osl 900 0 0 0)]) (o' := []) 900 1 rfl rfl (by repeat' (first | exact rfl | constructor)) (by repeat' (first | exact rfl | constructor)))
  refine Trip.ret ?_
  refine ⟨_, _, [900], [], [], [.arr 1 true []], .cons rfl .nil, .one, .nil, .cons rfl .nil, rfl, rfl, rfl, .nil, ?_, ?_⟩
  all_goals repeat' (first | exact rfl | constructor)
 ·intro hn
  have hn : nl = false := hn
  subst hn
  refine Trip.skip ?_
  apply Trip.regk ⟨[(2, .osl 5 0 es.length es.length)], [(5, .arr 1 false es)]⟩ tblOk
  ·repeat' (first | exact rfl | exact hc | exact Nat.le_trans (by simp; omega) (Nat.le_refl _) | constructor)
  ·exact rfl
  ·apply Weak.keep
   ·exact rfl
   ·repeat' (first | exact rfl | constructor)
   ·repeat' (first | exact rfl | constructor)
   ·exact rfl
   ·repeat' (first | exact rfl | exact hp | constructor)
  refine Trip.ret ?_
  refine ⟨_, _, [5], [], [], [.arr 1 false es], .cons rfl .nil, .one, .nil, .cons rfl .nil, rfl, rfl, rfl, .nil, ?_, ?_⟩
  all_goals repeat' (first | exact rfl | exact hp | constructor)
theorem le_bl : ∀ a b : Str, (a ≤ b) ↔ bl b a = false
 | a, b => by
  have key : ∀ x y : Str, x < y ↔ bl x y = true := by
   intro x
   induction x with
   | nil =>
    intro y
    cases y with
    | nil => simp [bl, Op.bytesLess]
    | cons b y => simp [bl, Op.bytesLess]
   | cons a x ih =>
    intro y
    cases y with
    | nil => simp [bl, Op.bytesLess]
    | cons b y => rw [bl_cons, List.cons_lt_cons_iff, ih]
  rw [← List.not_lt, key]
  cases bl b a <;> simp
abbrev msort (l : List Str) : List Str := l.mergeSort fun x y => decide (x ≤ y)
theorem msort_asc {l : List Str} (h : l.Nodup) : asc (msort l) := by
 have h1 : (msort l).Pairwise fun x y => decide (x ≤ y) = true := by
  apply List.pairwise_mergeSort
  ·intro a b c
   rw [decide_eq_true_eq, decide_eq_true_eq, decide_eq_true_eq]
   exact List.le_trans
  ·intro a b
   rw [Bool.or_eq_true, decide_eq_true_eq, decide_eq_true_eq]
   exact List.le_total a b
 have h2 : (msort l).Nodup := (List.mergeSort_perm l _).nodup_iff.2 h
 refine (h1.and h2).imp ?_
 rintro a b ⟨hab, hne⟩
 rw [decide_eq_true_eq, le_bl] at hab
 rcases bl_tri a b with h | h | h
 ·exact h
 ·rw [hab] at h; simp at h
 ·exact absurd h hne
theorem msort_mem (l : List Str) (x : Str) : x ∈ msort l ↔ x ∈ l := List.mem_mergeSort
theorem msort_len (l : List Str) : (msort l).length = l.length := List.length_mergeSort l
theorem cSortS (n : Nat) (nl : Bool) (l : List Str) (hn : n = l.length) (hs : l.length < 4611686018427387904) : Ctr prog 95 [.osl PN 0 n n] [.arr 1 nl (l.map fun s => sV s)] (.tup []) [.arr 1 nl ((msort l).map fun s => sV s)] [] :=
 Ctr.of_sort ⟨_, func95, rfl, rfl⟩ hn (msort_len l) (fun h => by subst h; exact List.mergeSort_nil) (fun w => Tryz.slices_Sort_string_none none 0 w) (fun w blk off cap hH hb => Tryz.slices_Sort_string blk off cap l w hH hb hs)
end Go.Proofs.Tryz
