/- A part of the proof: GLinB, GPth, Ha. -/
import Derived.Test.YtbnnmnbidkpmcaaGreatDoorPart28
import Derived.Lib.SplitLaws
set_option linter.unusedVariables false
set_option linter.unusedSimpArgs false
namespace Go.Graft
open Go.Sym
theorem failE_two (e : Int) : failE e 2 = 2 := by rw [failE, if_pos (.inr rfl)]
theorem isId_nil : isId [] = false := by decide
theorem whoOf_nil : (whoOf []).1 = 2 := by decide
theorem whoOf_cases (x : Str) : (whoOf x).1 = 2 ∧ (whoOf x).2 = zeroPer ∨ (whoOf x).1 = 1 ∧ (whoOf x).2 = zeroPer ∨ (whoOf x).1 = 0 := by
 rw [whoOf]
 split
 ·exact .inl ⟨rfl, rfl⟩
 split
 ·exact .inr (.inl ⟨rfl, rfl⟩)
 ·exact .inr (.inr rfl)
theorem lineV_no {s w : Str} (h : lineOk s w = false) : lineV s w = [] := by rw [lineV, h]; rfl
theorem rdId_zero (s w : Str) : rdId s 0 w = if (lineOk s w && isId (lineV s w)) = true then 0 else 2 := by
 rw [rdId, idE, lnE]
 cases h : lineOk s w with
 | false => rw [lineV_no h, isId_nil]; simp [failE_two]
 | true => cases h2 : isId (lineV s w) <;> simp [failE_two]
theorem rdWho_two (s w : Str) : rdWho s 2 w = 2 := by
 rw [rdWho, lnE]
 rcases whoOf_cases (lineV s w) with ⟨h, _⟩ | ⟨h, _⟩ | h <;> rw [h] <;> split <;> simp [failE, failE_two]
theorem rdWho_zero (s w : Str) : rdWho s 0 w = 2 - whoM (lineOk s w) (lineV s w) := by
 rw [rdWho, lnE, whoM]
 cases h : lineOk s w with
 | false => rw [lineV_no h, whoOf_nil]; simp [failE_two]
 | true => rcases whoOf_cases (lineV s w) with ⟨h, _⟩ | ⟨h, _⟩ | h <;> rw [h] <;> simp [failE, failE_two]
theorem rdWho_one (s w : Str) : rdWho s 1 w = if whoM (lineOk s w) (lineV s w) = 0 then 2 else 1 := by
 rw [rdWho, lnE, whoM]
 cases h : lineOk s w with
 | false => rw [lineV_no h, whoOf_nil]; simp [failE_two]
 | true => rcases whoOf_cases (lineV s w) with ⟨h, _⟩ | ⟨h, _⟩ | h <;> rw [h] <;> simp [failE, failE_two]
theorem whoM_cases (b : Bool) (x : Str) : whoM b x = 0 ∨ (whoM b x = 1 ∧ (whoOf x).2 = zeroPer) ∨ whoM b x = 2 := by
 rw [whoM]
 rcases whoOf_cases x with ⟨h, h2⟩ | ⟨h, h2⟩ | h <;> rw [h] <;> cases b <;> simp_all
theorem pre_of_line {s w : Str} (h : lineOk s w = true) : Lib.hasPrefix s w = true := by
 rw [lineOk] at h
 rcases cut_nl s with ⟨_, k, _, _, h3, _⟩ | ⟨h1, _⟩
 ·rw [h3] at h
  simp only [Bool.and_eq_true, Lib.hasPrefix, List.isPrefixOf_iff_prefix] at h ⊢
  exact h.2.trans (List.take_prefix _ _)
 ·rw [h1] at h; simp at h
def nlBad (s : Str) : Bool := decide (s = []) || decide (¬ ((s.getD 0 0).toNat : Int) = 10)
theorem nl_line (s : Str) (e : Int) : (if lineV s [] = [] then lnE s [] e else failE (lnE s [] e) 2) = (if nlBad s = true then 2 else e) ∧ (nlBad s = false → lineR s [] = s.drop 1) := by
 have hp : ∀ t : Str, Lib.hasPrefix t [] = true := fun t => by simp [Lib.hasPrefix]
 have hok : lineOk s [] = (Lib.cut s [10]).2.2 := by rw [lineOk, hp, Bool.and_true]
 rcases cut_nl s with ⟨h1, k, hk, h2, h3, h4⟩ | ⟨h1, hk⟩
 ·have hv : lineV s [] = s.take k := by rw [lineV, hok, h1, if_pos rfl, Lib.trimPrefix, hp, if_pos rfl, h3]; rfl
  have hr : lineR s [] = s.drop (k + 1) := by rw [lineR, hok, h1, if_pos rfl, h4]
  have hl : lnE s [] e = e := by rw [lnE, hok, h1]; rfl
  rw [hv, hr, hl, failE_two]
  cases s with
  | nil => simp at h2
  | cons b r =>
   rw [Go.Graft.index_one_cons] at hk
   by_cases hb : b = 10
   ·rw [if_pos hb] at hk
    have : k = 0 := by omega
    subst this; subst hb
    have hn : nlBad (10 :: r) = false := by
     rw [nlBad, decide_eq_false (by simp), decide_eq_false (fun h => h (by show ((UInt8.toNat 10 : Nat) : Int) = 10; decide))]; rfl
    rw [hn]
    exact ⟨rfl, fun _ => rfl⟩
   ·have hk0 : k ≠ 0 := by
     rintro rfl
     rw [if_neg hb] at hk
     have := Lib.index_ge r [10]
     split at hk <;> omega
    have hn : nlBad (b :: r) = true := by
     have hb2 : ¬ ((b.toNat : Int) = 10) := fun h => hb (UInt8.toNat.inj (by
      have : b.toNat = 10 := by omega
      rw [this]; rfl))
     rw [nlBad, Bool.or_eq_true]
     exact .inr (decide_eq_true hb2)
    have ht : ¬ (b :: r).take k = [] := by
     cases k with
     | zero => exact absurd rfl hk0
     | succ k => simp
    rw [hn, if_neg ht]
    exact ⟨rfl, fun h => by simp at h⟩
 ·have hok2 : lineOk s [] = false := by rw [hok, h1]
  have hn : nlBad s = true := by
   cases s with
   | nil => rfl
   | cons b r =>
    rw [Go.Graft.index_one_cons] at hk
    have hb : ¬ b = 10 := by
     rintro rfl
     simp at hk
    have hb2 : ¬ ((b.toNat : Int) = 10) := fun h => hb (UInt8.toNat.inj (by
     have : b.toNat = 10 := by omega
     rw [this]; rfl))
    rw [nlBad, Bool.or_eq_true]
    exact .inr (decide_eq_true hb2)
  rw [lineV_no hok2, hn, if_pos rfl, lnE, hok2]
  exact ⟨by simp [failE_two], fun h => by simp at h⟩
theorem parsP_two : ∀ (f : Nat) (s : Str) (l : List Str), parsP f s 2 l = (s, 2, l)
 | 0, s, l => rfl
 | f + 1, s, l => by rw [parsP, if_neg (by simp)]
theorem pars_same : ∀ (f : Nat) (s : Str) (l : List Str), s.length < f →
  match parsR f s l with
  | none => (parsP f s 0 l).2.1 = 2
  | some (s2, l2) => parsP f s 0 l = (s2, 0, l2) ∨ ((parsP f s 0 l).2.1 = 2 ∧ Lib.hasPrefix s2 kPar = true)
 | 0, s, l, h => by omega
 | f + 1, s, l, h => by
  rw [parsR, parsP]
  by_cases hp : Lib.hasPrefix s kPar = true
  ·have hc : (0 : Int) = 0 ∧ Lib.hasPrefix s kPar = true := ⟨rfl, hp⟩
   rw [if_pos hc, rdId_zero]
   by_cases hl : lineOk s kPar = true
   ·rw [if_pos hl, hl, Bool.true_and]
    by_cases hi : isId (lineV s kPar) = true
    ·rw [if_pos hi, if_pos hi]
     exact pars_same f _ _ (by have := lineR_short s kPar hl; omega)
    ·rw [if_neg hi, if_neg hi]
     simp only [parsP_two]
   ·have hl : lineOk s kPar = false := by simpa using hl
    rw [hl]
    simp only [Bool.false_and, Bool.false_eq_true, if_false, parsP_two]
    exact .inr ⟨trivial, hp⟩
  ·have hl : ¬ lineOk s kPar = true := fun h => hp (pre_of_line h)
   have hc : ¬ ((0 : Int) = 0 ∧ Lib.hasPrefix s kPar = true) := fun h => hp h.2
   rw [if_neg hl, if_neg hc]
   exact .inl rfl
theorem pre_two {s : Str} (h : Lib.hasPrefix s kPar = true) : lineOk s kAut = false := by
 cases h2 : lineOk s kAut with
 | false => rfl
 | true =>
  exfalso
  have h3 := pre_of_line h2
  cases s with
  | nil => simp [Lib.hasPrefix, kPar] at h
  | cons b r =>
   simp only [Lib.hasPrefix, kPar, kAut, List.isPrefixOf, Bool.and_eq_true, beq_iff_eq] at h h3
   rw [← h.1] at h3
   exact absurd h3.1 (by decide)
theorem com_same (s : Str) : comP s = comR s := by
 rw [comP, comR]
 simp only [rdId_zero, (nl_line _ _).1]
 cases h1 : lineOk s kTree && isId (lineV s kTree) with
 | false =>
  simp only [Bool.false_eq_true, if_false, if_true]
  have hq : parsOf (lineR s kTree) 2 = (lineR s kTree, 2, []) := by rw [parsOf, parsP_two]
  rw [hq]
  simp only [rdWho_two]
  split <;> simp
 | true =>
  simp only [if_true, Bool.true_eq_false, if_false]
  have hp := pars_same ((lineR s kTree).length + 1) (lineR s kTree) [] (by omega)
  rw [parsOf]
  generalize parsP ((lineR s kTree).length + 1) (lineR s kTree) 0 [] = q at hp ⊢
  cases hr : parsR ((lineR s kTree).length + 1) (lineR s kTree) [] with
  | none =>
   rw [hr] at hp
   simp only at hp
   rw [hp]
   simp only [rdWho_two]
   split <;> simp
  | some p =>
   obtain ⟨s2, l⟩ := p
   rw [hr] at hp
   simp only at hp ⊢
   rcases hp with rfl | ⟨hp, hq⟩
   ·simp only [rdWho_zero]
    have hn : ∀ t : Str, (decide (t = []) || decide (¬ ((t.getD 0 0).toNat : Int) = 10)) = nlBad t := fun _ => rfl
    have hm := whoM_cases (lineOk s2 kAut) (lineV s2 kAut)
    generalize whoM (lineOk s2 kAut) (lineV s2 kAut) = m at hm ⊢
    generalize lineR s2 kAut = s3
    have hk := whoM_cases (lineOk s3 kCom) (lineV s3 kCom)
    have h0 := rdWho_zero s3 kCom
    have h1 := rdWho_one s3 kCom
    have h2 := rdWho_two s3 kCom
    generalize whoM (lineOk s3 kCom) (lineV s3 kCom) = n at hk h0 h1 ⊢
    have hnl := (nl_line (lineR s3 kCom) 0).2
    simp only [Bool.or_assoc, hn]
    cases hb : nlBad (lineR s3 kCom) with
    | true => simp
    | false =>
     rw [hnl hb]
     have e10 : (2 : Int) - 1 = 1 := rfl
     have e20 : (2 : Int) - 2 = 0 := rfl
     have e00 : (2 : Int) - 0 = 2 := rfl
     rcases hm with rfl | ⟨rfl, _⟩ | rfl <;> rcases hk with rfl | ⟨rfl, _⟩ | rfl <;> simp only [e10, e20, e00, h0, h1, h2] <;> simp <;> split <;> simp_all
   ·rw [hp]
    simp only [rdWho_two]
    have : whoM (lineOk s2 kAut) (lineV s2 kAut) = 0 := by rw [pre_two hq]; simp [whoM]
    rw [this]
    simp
theorem tg_same (s : Str) : tgP s = tgR s := by
 rw [tgP, tgR]
 simp only [rdId_zero, (nl_line _ _).1]
 have hn : ∀ t : Str, (decide (t = []) || decide (¬ ((t.getD 0 0).toNat : Int) = 10)) = nlBad t := fun _ => rfl
 simp only [Bool.or_assoc, hn]
 have hz : zeroPer.ok = false := by decide
 have key : ∀ e : Int, (e = 0 ∨ e = 2) → ∀ s w, lnE s w e = if lineOk s w = true then e else 2 := fun e he s w => by
  rw [lnE]; split <;> simp [failE_two]
 have k0 : kindW [] = 0 := by decide
 have hk1 : lineOk (lineR s kObj) kTyp = false → kindW (lineV (lineR s kObj) kTyp) = 0 := fun h => by rw [lineV_no h, k0]
 generalize lineR s kObj = s1 at hk1 ⊢
 generalize hkw : kindW (lineV s1 kTyp) = kw at hk1 ⊢
 generalize lineR s1 kTyp = s2
 generalize lineR s2 kTag = s3
 have h0 := rdWho_zero s3 kTgr
 have h2 := rdWho_two s3 kTgr
 have hm := whoM_cases (lineOk s3 kTgr) (lineV s3 kTgr)
 have hnl := (nl_line (lineR s3 kTgr) 0).2
 generalize whoM (lineOk s3 kTgr) (lineV s3 kTgr) = m at hm h0 ⊢
 generalize lineR s3 kTgr = s4 at hnl ⊢
 cases hb : nlBad s4 with
 | true => simp
 | false =>
  rw [hnl hb]
  by_cases hi : (lineOk s kObj && isId (lineV s kObj)) = true
  ·rw [if_pos hi]
   simp only [Bool.and_eq_true] at hi
   rw [hi.1, hi.2, key 0 (.inl rfl)]
   by_cases hw : kw = 0
   ·subst hw
    simp only [if_true, failE_two, key 2 (.inr rfl), ite_self, h2]
    simp
   ·have hl1 : lineOk s1 kTyp = true := by
     cases h : lineOk s1 kTyp with
     | true => rfl
     | false => exact absurd (hk1 h) hw
    rw [if_neg hw, hl1, if_pos rfl, key 0 (.inl rfl)]
    cases hl2 : lineOk s2 kTag with
    | false => simp [h2]
    | true =>
     simp only [if_true, h0]
     rcases hm with rfl | ⟨rfl, hp⟩ | rfl
     ·simp
     ·have : tgE ⟨lineV s kObj, kw, lineV s2 kTag, (whoOf (lineV s3 kTgr)).2, s4.drop 1⟩ = 1 := by rw [tgE, tgBad, hp, hz]; simp
      rw [this]
      simp [hw]
     ·simp [hw]
  ·rw [if_neg hi]
   have hor : (!lineOk s kObj || !isId (lineV s kObj)) = true := by
    cases h : lineOk s kObj <;> cases h' : isId (lineV s kObj) <;> simp_all
   have h5 : (if kw = 0 then failE (lnE s1 kTyp 2) 2 else lnE s1 kTyp 2) = 2 := by
    rw [key 2 (.inr rfl)]; simp [failE_two]
   rw [h5, key 2 (.inr rfl), ite_self, h2]
   cases h : lineOk s kObj <;> cases h' : isId (lineV s kObj) <;> simp_all
end Go.Graft
namespace Go.Graft
open Go.Sym
def pathBad (p : Str) : Bool := decide (p = []) || decide (255 < (p.length : Int))
theorem allS_false {l : List Str} {q : Str → Bool} {i : Nat} (h : i < l.length) (hq : q l[i]! = false) : l.all q = false := by
 rw [List.all_eq_false]
 refine ⟨l[i], List.getElem_mem h, ?_⟩
 rw [getElem!_pos l i h] at hq
 simpa using hq
theorem allS_true {l : List Str} {q : Str → Bool} (h : ∀ i, i < l.length → q l[i]! = true) : l.all q = true := by
 rw [List.all_eq_true]
 intro x hx
 obtain ⟨i, hi, rfl⟩ := List.getElem_of_mem hx
 have := h i hi
 rwa [getElem!_pos l i hi] at this
theorem pathOk_eq (p : Str) : pathOk p = (!pathBad p && (splitC 47 p).all partOk && decide (((splitC 47 p).length : Int) ≤ 16)) := by
 rw [pathOk, pathBad]
 have e : decide ((p.length : Int) ≤ 255) = !decide (255 < (p.length : Int)) := by rw [← decide_not]; exact decide_eq_decide.2 (by omega)
 have e2 : decide (p ≠ []) = !decide (p = []) := decide_not
 rw [e, e2, Bool.not_or]
theorem pathOk_bad {p : Str} (h : pathBad p = true) : pathOk p = false := by rw [pathOk_eq, h]; rfl
theorem pathOk_part {p : Str} {i : Nat} (h : i < (splitC 47 p).length) (hq : partOk (splitC 47 p)[i]! = false) : pathOk p = false := by
 rw [pathOk_eq, allS_false h hq, Bool.and_false, Bool.false_and]
theorem pathOk_end {p : Str} (hb : pathBad p = false) (h : ∀ i, i < (splitC 47 p).length → partOk (splitC 47 p)[i]! = true) : pathOk p = decide (((splitC 47 p).length : Int) ≤ 16) := by
 rw [pathOk_eq, allS_true h, hb]; rfl
def partsOf (p : Str) : List Str := if p = [] then [] else splitC 47 p
theorem partsOf_len (p : Str) : (partsOf p).length ≤ p.length + 1 := by
 rw [partsOf]
 split
 ·simp
 ·exact (splitC_length 47 p).2
theorem partsOf_mem {p x : Str} (h : x ∈ partsOf p) : x.length ≤ p.length ∧ partOk2 x = partOk x := by
 rw [partsOf] at h
 split at h
 ·simp at h
 ·exact ⟨splitC_mem_len 47 p x h, part_same rfl h⟩
def partsBad (p : Str) : Bool := decide (((partsOf p).length : Int) < 1) || decide (16 < ((partsOf p).length : Int)) || decide (255 < (p.length : Int))
theorem pathOk_parts (p : Str) : pathOk p = (!partsBad p && (partsOf p).all partOk) := by
 by_cases h : p = []
 ·subst h; rfl
 ·have h1 := (splitC_length 47 p).1
  rw [pathOk_eq, pathBad, partsBad, partsOf, if_neg h]
  generalize (splitC 47 p).all partOk = a
  generalize (splitC 47 p).length = n at *
  rw [decide_eq_false h]
  have e1 : decide ((n : Int) < 1) = false := decide_eq_false (by omega)
  have e2 : decide (16 < (n : Int)) = !decide ((n : Int) ≤ 16) := by rw [← decide_not]; exact decide_eq_decide.2 (by omega)
  rw [e1, e2]
  cases decide (255 < (p.length : Int)) <;> cases decide ((n : Int) ≤ 16) <;> cases a <;> rfl
theorem bang_mem {α : Type} [Inhabited α] {l : List α} {i : Nat} (h : i < l.length) : l[i]! ∈ l := by
 rw [getElem!_pos l i h]; exact List.getElem_mem h
def Cuts (p : Str) (F : List Str) (a i : Nat) : Prop := a ≤ i ∧ i ≤ p.length ∧ F.length ≤ i ∧ F ++ pre ((p.take i).drop a) (splitC 47 (p.drop i)) = splitC 47 p
theorem cuts_zero (p : Str) : Cuts p [] 0 0 := ⟨Nat.le_refl _, Nat.zero_le _, Nat.le_refl _, by rw [List.take_zero]; exact pre_nil _⟩
theorem cuts_at {p : Str} {F : List Str} {a i : Nat} (h : Cuts p F a i) (hi : i < p.length) (hc : p.getD i 0 = 47) : Cuts p (F ++ [(p.take i).drop a]) (i + 1) (i + 1) := by
 obtain ⟨h1, h2, h3, h4⟩ := h
 refine ⟨Nat.le_refl _, hi, by simp; omega, ?_⟩
 rw [splitC_at 47 p i hi, if_pos hc] at h4
 have e : (p.take (i + 1)).drop (i + 1) = [] := by simp [List.drop_eq_nil_iff]
 rw [e, pre_nil, ← h4, List.append_assoc]
 simp [pre]
theorem cuts_on {p : Str} {F : List Str} {a i : Nat} (h : Cuts p F a i) (hi : i < p.length) (hc : ¬ p.getD i 0 = 47) : Cuts p F a (i + 1) := by
 obtain ⟨h1, h2, h3, h4⟩ := h
 refine ⟨by omega, hi, by omega, ?_⟩
 rw [splitC_at 47 p i hi, if_neg hc, pre_pre] at h4
 rw [← h4, take_snoc p i hi, List.drop_append_of_le_length (by rw [List.length_take]; omega), getD_bang]
theorem cuts_end {p : Str} {F : List Str} {a : Nat} (h : Cuts p F a p.length) : F ++ [(p.take p.length).drop a] = splitC 47 p := by
 obtain ⟨h1, h2, h3, h4⟩ := h
 rw [List.drop_length] at h4
 simpa [splitC, pre] using h4
end Go.Graft
namespace Go.Proofs.Tryz
open Go Go.Sym Go.Graft Go.RowKit
set_option maxRecDepth 20000
theorem grown_alloc (w : World) (o : Obj) : Go.Sym.Grown w (w.alloc o) := ⟨rfl, rfl, rfl, by simp, fun b hb => Below.heap_alloc _ _ _ hb⟩
theorem sSplit (s : Str) (hs : s.length < 4294967281) : Ctr prog 205 [sV s, sV [47]] [] (.sl false 1 ((splitC 47 s).map fun x => sV x)) [] [] :=
 Ctr.of_new (xs := [.string ⟨⟨s⟩⟩, .string ⟨⟨[47]⟩⟩]) ⟨_, func205, rfl, rfl⟩ rfl fun w hg => by
  obtain ⟨m, hm⟩ := max_at hg
  refine (Tryz.strings_Split ⟨⟨s⟩⟩ ⟨⟨[47]⟩⟩ m w hs hm (by decide)).mono ?_
  rintro e w' ⟨rfl, rfl⟩
  refine ⟨_, rfl, grown_alloc _ _, fun F L hF => ?_⟩
  have h0 := Lib.splitB_all ⟨⟨[47]⟩⟩ (by decide) 0 _ ⟨⟨s⟩⟩ rfl
  have h1 := Lib.splitB_data ⟨⟨[47]⟩⟩ 0 (Lib.countB ⟨⟨s⟩⟩ ⟨⟨[47]⟩⟩) ⟨⟨s⟩⟩
  have h2 : Lib.splitK [47] 0 (Lib.countB ⟨⟨s⟩⟩ ⟨⟨[47]⟩⟩) s = splitC 47 s := split_eq 47 s
  generalize Lib.splitB ⟨⟨[47]⟩⟩ 0 (Lib.countB ⟨⟨s⟩⟩ ⟨⟨[47]⟩⟩) ⟨⟨s⟩⟩ = bs at *
  have h3 : bs.map (·.data.toList) = splitC 47 s := h1.trans h2
  rw [← h0]
  refine .sl (by rw [← h3]; simp) (Nat.le_refl _) (rows_of (hF _ (Nat.le_refl _)) _ (fun x => .string ⟨⟨x⟩⟩) (fun _ => rfl) (fun _ => .v _ _) _ _ fun j x hj => ?_)
  rw [← h3, List.getElem?_map] at hj
  cases hb : bs[j]? with
  | none => rw [hb] at hj; simp at hj
  | some y =>
   rw [hb] at hj
   simp at hj
   subst hj
   have hnew := heap_alloc_new w (.cells (bs.map Value.string).toArray 9)
   simp only [World.cell?, hnew]
   simp [hb]
theorem cPathIs (p : Str) : Ctr prog 180 [sV p] [] (bV (pathOk p)) [] [] := by
 have hpb : pathBad p = (decide (p = []) || decide (255 < (p.length : Int))) := rfl
 refine Ctr.enter tblOk func180 rfl (by decide) rfl (nt := 28) rfl rfl rfl rfl ?_
 refine Trip.sr tblOk ?_
 refine Trip.seq (Trip.sR tblOk (by repeat' (first | exact rfl | ((with_reducible refine Side.mk ?_); first | exact fun h => h | exact fun _ h => congrArg Bool.not h) | constructor)) ?_)
 apply Trip.cond (.tmp rfl)
 ·intro h
  have h : pathBad p = true := h
  rw [pathOk_bad h]
  refine Trip.sr tblOk ?_
  refine Trip.ret (rt1 [] (hc := by repeat' (exact cvB (by simp only [List.length_map]))))
 intro h
 have hb : pathBad p = false := h
 have hp : p.length ≤ 255 := by
  rw [hpb] at hb
  simp at hb
  omega
 refine Trip.skip ?_
 have cs := sSplit p (by omega)
 have cp := fun x (hx : x ∈ splitC 47 p) => cPart x (by have := splitC_mem_len 47 p x hx; omega)
 have hll := splitC_length 47 p
 have hk1 := fun i => @pathOk_part p i
 have hk2 := pathOk_end (p := p) hb
 generalize splitC 47 p = l at *
 refine Trip.sR tblOk (by repeat' (first | exact rfl | (apply Rule.sem; intro hγ; with_reducible apply F_call0 (x := .func 205) (B := []) hγ (hspec := cs)) | ((with_reducible refine Side.mk ?_); exact .inl rfl) | constructor)) ?_
 refine Trip.seq (Trip.sr tblOk ?_)
 refine Trip.block ?_
 refine Trip.loop (fun (i : Nat) => ⟨[(3, .sl false 1 (l.map fun x => sV x)), (15, .sl false 1 (l.map fun x => sV x)), (16, iV l.length), (17, iV i)], []⟩) (fun (i : Nat) => i ≤ l.length ∧ ∀ j, j < i → partOk l[j]! = true) (fun (i : Nat) => l.length - i) (0) (by exact ⟨Nat.zero_le _, fun j hj => absurd hj (by omega)⟩) (Weak.kp (ht := by repeat' (first | exact rfl | (refine vI ?_; first | omega | (simp; done) | (simp; omega) | (simp only [List.length_map] at *; omega)) | constructor))) ?_
 intro i hi
 obtain ⟨hi, hj⟩ := hi
 refine Trip.sr tblOk ?_
 refine Trip.seq ?_
 apply Trip.cond (.tmp rfl)
 ·intro h
  have h : i < l.length := by simp at h; omega
  have cp := cp _ (bang_mem h)
  refine Trip.skip (Trip.seq (Trip.block (Trip.sR tblOk (by repeat' (first | exact rfl | exact idx_map _ _ _ (by show _ < _; first | omega | (simp only [List.length_map] at *; omega)) | ((with_reducible refine Side.mk ?_); (simp only [ln]; first | done | omega)) | constructor)) ?_)))
  refine Trip.sR tblOk (by repeat' (first | exact rfl | (apply Rule.sem; intro hγ; with_reducible apply F_call0 (x := .func 206) (B := []) hγ (hspec := cp)) | ((with_reducible refine Side.mk ?_); exact .inl rfl) | constructor)) ?_
  apply Trip.cond (.tmp rfl)
  ·intro h2
   rw [hk1 _ h (by simpa using h2)]
   refine Trip.sr tblOk ?_
   refine Trip.ret (rt1 [] (hc := by repeat' (exact cvB (by simp only [List.length_map]))))
  intro h2
  have h2 : partOk l[i]! = true := by simpa using h2
  refine Trip.skip (Trip.R tblOk (by repeat' (first | exact rfl | ((with_reducible refine Side.mk ?_); omega) | constructor)) ?_)
  exact ⟨i + 1, by exact ⟨by omega, fun j h3 => (Nat.lt_succ_iff_lt_or_eq.1 h3).elim (hj j) (fun e => e ▸ h2)⟩, by first | omega | (dsimp only at *; omega), Weak.kp⟩
 intro h
 have h : i = l.length := by simp at h; omega
 subst h
 refine Trip.exit ?_
 rw [hk2 hj]
 refine Trip.sr tblOk ?_
 refine Trip.ret (rt1 [] (hc := by repeat' (exact cvB (by simp only [List.length_map]))))
theorem cParts6 (p : Str) (hs : p.length ≤ 1000000000000) : Ctr prog 189 [sV p] [] (.sl (decide (p = [])) 1 ((partsOf p).map fun x => sV x)) [] [] := by
 refine Ctr.enter tblOk func189 rfl (by decide) rfl (nt := 33) rfl rfl rfl rfl ?_
 refine Trip.sr tblOk ?_
 refine Trip.seq (Trip.sr tblOk ?_)
 apply Trip.cond (.tmp rfl)
 ·intro h
  have h : p = [] := by simpa using h
  subst h
  refine Trip.sr tblOk ?_
  refine Trip.ret (rt1 [])
 intro h
 have h : ¬ p = [] := by simpa using h
 rw [decide_eq_false h, partsOf, if_neg h]
 refine Trip.skip (Trip.sr tblOk ?_)
 refine Trip.sr tblOk ?_
 refine Trip.seq (Trip.sr tblOk ?_)
 refine Trip.block ?_
 apply Trip.loop (fun (x : List Str × Nat × Nat) => ⟨[(0, sV p), (3, .osl 900 0 x.1.length x.1.length), (4, iV x.2.1), (5, iV x.2.2)], [(900, .arr 1 x.1.isEmpty (x.1.map fun x => sV x))]⟩) (fun (x : List Str × Nat × Nat) => Cuts p x.1 x.2.1 x.2.2) (fun (x : List Str × Nat × Nat) => p.length - x.2.2) (([], 0, 0))
 ·exact cuts_zero p
 ·refine Weak.trans (S2 := ⟨[(0, sV p), (3, nilS), (4, iV 0), (5, iV 0)], []⟩) ?_ ?_
  ·exact Weak.kp
  ·exact Weak.adopt 900 1 rfl rfl (by repeat' (first | exact rfl | constructor)) (by repeat' (first | exact rfl | constructor))
 intro x hx
 obtain ⟨F, a, i⟩ := x
 dsimp only at *
 have hx2 := hx
 obtain ⟨h1, h2, h3, h4⟩ := hx2
 refine Trip.seq (Trip.sr tblOk ?_)
 apply Trip.cond (.tmp rfl)
 ·intro h
  have h : i < p.length := by simp at h; omega
  refine Trip.skip (Trip.seq (Trip.block (Trip.sR tblOk (by repeat' (first | exact rfl | ((with_reducible refine Side.mk ?_); omega) | constructor)) ?_)))
  apply Trip.cond (.tmp rfl)
  ·intro h5
   have h5 : p.getD i 0 = 47 := u8_eq (b := 47) (by simpa using h5)
   have hc := cuts_at hx h h5
   refine Trip.sR tblOk (by repeat' (first | exact rfl | ((first | with_reducible refine bok ?_ | with_reducible refine Side.mk ?_); first | omega | (simp only [ln]; first | done | omega)) | constructor)) ?_
   refine Trip.R tblOk (by repeat' (first | exact rfl | ((with_reducible refine Side.mk ?_); omega) | constructor)) ?_
   refine Trip.R tblOk (by repeat' (first | exact rfl | ((with_reducible refine Side.mk ?_); omega) | constructor)) ?_
   exact ⟨(F ++ [(p.take i).drop a], i + 1, i + 1), by exact hc, by first | omega | (dsimp only at *; omega), Weak.kp (ht := by repeat' (first | exact rfl | (refine Side.mk (oslE ?_ ?_) <;> (simp only [ln]; first | done | omega)) | constructor)) (ho := by repeat' (first | exact rfl | exact arrF (by simp) (by simp [loOf, hiOf]) | constructor)) (huo := by repeat' (first | exact plainL_map _ (fun _ => rfl) _ | constructor))⟩
  intro h5
  have h5 : ¬ p.getD i 0 = 47 := u8_ne (b := 47) (by simpa using h5)
  have hc := cuts_on hx h h5
  refine Trip.skip (Trip.R tblOk (by repeat' (first | exact rfl | ((with_reducible refine Side.mk ?_); omega) | constructor)) ?_)
  exact ⟨(F, a, i + 1), by exact hc, by first | omega | (dsimp only at *; omega), Weak.kp (huo := by repeat' (first | exact plainL_map _ (fun _ => rfl) _ | constructor))⟩
 intro h
 have h : i = p.length := by simp at h; omega
 subst h
 refine Trip.exit ?_
 rw [← cuts_end hx]
 refine Trip.rk ⟨[(2, .osl 900 0 (F ++ [(p.take p.length).drop a]).length (F ++ [(p.take p.length).drop a]).length)], [(900, .arr 1 false ((F ++ [(p.take p.length).drop a]).map fun x => sV x))]⟩ tblOk (by repeat' (first | exact rfl | ((first | with_reducible refine bokL ?_ | with_reducible refine Side.mk ?_); first | omega | (simp only [ln]; first | done | omega)) | constructor)) (Weak.kp (ht := by repeat' (first | exact rfl | (refine Side.mk (oslE ?_ ?_) <;> (simp only [ln]; first | done | omega)) | constructor)) (ho := by repeat' (first | exact rfl | exact arrF (by simp) (by simp [loOf, hiOf]) | constructor)) (huo := by repeat' (first | exact plainL_map _ (fun _ => rfl) _ | constructor))) ?_
 refine Trip.ret (rt1 [900] (hc := by repeat' (first | exact rfl | exact plainL_map _ (fun _ => rfl) _ | (refine Side.mk ?_; simp only [ln]; first | done | omega) | constructor)))
theorem cIs6 (p : Str) (hs : p.length ≤ 1000000000000) : Ctr prog 160 [sV p] [] (bV (pathOk p)) [] [] := by
 have hpb : partsBad p = (decide (((partsOf p).length : Int) < 1) || decide (16 < ((partsOf p).length : Int)) || decide (255 < (p.length : Int))) := rfl
 have c1 := cParts6 p hs
 have hll := partsOf_len p
 have cp : ∀ x, x ∈ partsOf p → Ctr prog 190 [sV x] [] (bV (partOk x)) [] [] := fun x hx => by
  obtain ⟨h1, h2⟩ := partsOf_mem hx
  rw [← h2]
  exact cPart2 x (by omega)
 rw [pathOk_parts]
 generalize partsBad p = b at *
 generalize partsOf p = l at *
 refine Ctr.enter tblOk func160 rfl (by decide) rfl (nt := 32) rfl rfl rfl rfl ?_
 refine Trip.sr tblOk ?_
 refine Trip.sR tblOk (by repeat' (first | exact rfl | (apply Rule.sem; intro hγ; with_reducible apply F_call0 (x := .func 189) (B := []) hγ (hspec := c1)) | ((with_reducible refine Side.mk ?_); exact .inl rfl) | constructor)) ?_
 refine Trip.seq (Trip.sR tblOk (by repeat' (first | exact rfl | ((with_reducible refine Side.mk ?_); first | exact fun h => h | exact fun _ h => congrArg Bool.not h) | constructor)) ?_)
 apply Trip.cond (.tmp rfl)
 ·intro h
  have h : b = true := by rw [hpb]; simpa using h
  subst h
  refine Trip.sr tblOk ?_
  refine Trip.ret (rt1 [])
 intro h
 have h : b = false := by rw [hpb]; simpa using h
 rw [h]
 refine Trip.skip (Trip.seq (Trip.sr tblOk ?_))
 refine Trip.block ?_
 refine Trip.loop (fun (i : Nat) => ⟨[(3, .sl (decide (p = [])) 1 (l.map fun x => sV x)), (4, iV i)], []⟩) (fun (i : Nat) => i ≤ l.length ∧ ∀ j, j < i → partOk l[j]! = true) (fun (i : Nat) => l.length - i) (0) (by exact ⟨Nat.zero_le _, fun j hj => absurd hj (by omega)⟩) Weak.kp ?_
 intro i hi
 obtain ⟨hi, hj⟩ := hi
 refine Trip.seq (Trip.sr tblOk ?_)
 apply Trip.cond (.tmp rfl)
 ·intro h
  have h : i < l.length := by simp at h; omega
  have cp := cp _ (bang_mem h)
  refine Trip.skip (Trip.seq (Trip.block (Trip.sR tblOk (by repeat' (first | exact rfl | (apply Rule.sem; intro hγ; with_reducible apply F_call0 (x := .func 190) (B := []) hγ (hspec := cp)) | exact idx_map _ _ _ (by show _ < _; first | omega | (simp only [List.length_map] at *; omega)) | ((with_reducible refine Side.mk ?_); first | exact .inl rfl | (simp only [ln]; first | done | omega)) | constructor)) ?_)))
  apply Trip.cond (.tmp rfl)
  ·intro h2
   rw [allS_false h (by simpa using h2)]
   refine Trip.sr tblOk ?_
   refine Trip.ret (rt1 [])
  intro h2
  have h2 : partOk l[i]! = true := by simpa using h2
  refine Trip.skip (Trip.R tblOk (by repeat' (first | exact rfl | ((with_reducible refine Side.mk ?_); omega) | constructor)) ?_)
  exact ⟨i + 1, by exact ⟨by omega, fun j h3 => (Nat.lt_succ_iff_lt_or_eq.1 h3).elim (hj j) (fun e => e ▸ h2)⟩, by first | omega | (dsimp only at *; omega), Weak.kp⟩
 intro h
 have h : i = l.length := by simp at h; omega
 subst h
 refine Trip.exit ?_
 rw [allS_true hj]
 refine Trip.sr tblOk ?_
 refine Trip.ret (rt1 [])
end Go.Proofs.Tryz
