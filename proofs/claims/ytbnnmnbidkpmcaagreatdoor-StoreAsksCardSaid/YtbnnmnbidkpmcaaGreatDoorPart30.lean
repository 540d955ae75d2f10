/- A part of the proof: GLinB, GPth, SymZF, SymZG. -/
import Derived.Test.YtbnnmnbidkpmcaaGreatDoorPart29
import Derived.Sort.EncStr
set_option linter.unusedVariables false
set_option linter.unusedSimpArgs false
namespace Go.Graft
open Go.Sym
theorem failE_two (e : Int) : failE e 2 = 2 := by rw [failE, if_pos (.inr rfl)]
theorem isId_nil : isId [] = false := by decide
theorem whoOf_nil : (whoOf []).1 = 2 := by decide
theorem whoOf_cases (x : Str) : (whoOf x).1 = 2 ∧ (whoOf x).2 = zeroPer ∨ (whoOf x).1 = 1 ∧ (whoOf x).2 = zeroPer ∨ (whoOf x).1 = 0 := by
  rw [whoOf]
  split
  · exact .inl ⟨rfl, rfl⟩
  split
  · exact .inr (.inl ⟨rfl, rfl⟩)
  · exact .inr (.inr rfl)
theorem lineV_no {s w : Str} (h : lineOk s w = false) : lineV s w = [] := by rw [lineV, h]; rfl
theorem rdId_zero (s w : Str) : rdId s 0 w = if (lineOk s w && isId (lineV s w)) = true then 0 else 2 := by
  rw [rdId, idE, lnE]
  cases h : lineOk s w with
  | false => rw [lineV_no h, isId_nil]; simp [failE_two]
  | true => cases h2 : isId (lineV s w) <;> simp [failE_two]
theorem rdWho_two (s w : Str) : rdWho s 2 w = 2 := by
  rw [rdWho, lnE]
  rcases whoOf_cases (lineV s w) with ⟨h, _⟩ | ⟨h, _⟩ | h <;> rw [h] <;> split <;> simp [failE, failE_two]
theorem rdWho_zero (s w : Str) : rdWho s 0 w = 2 - whoM (lineOk s w) (lineV s w) := by
  rw [rdWho, lnE, whoM]
  cases h : lineOk s w with
  | false => rw [lineV_no h, whoOf_nil]; simp [failE_two]
  | true => rcases whoOf_cases (lineV s w) with ⟨h, _⟩ | ⟨h, _⟩ | h <;> rw [h] <;> simp [failE, failE_two]
theorem rdWho_one (s w : Str) : rdWho s 1 w = if whoM (lineOk s w) (lineV s w) = 0 then 2 else 1 := by
  rw [rdWho, lnE, whoM]
  cases h : lineOk s w with
  | false => rw [lineV_no h, whoOf_nil]; simp [failE_two]
  | true => rcases whoOf_cases (lineV s w) with ⟨h, _⟩ | ⟨h, _⟩ | h <;> rw [h] <;> simp [failE, failE_two]
theorem whoM_cases (b : Bool) (x : Str) : whoM b x = 0 ∨ (whoM b x = 1 ∧ (whoOf x).2 = zeroPer) ∨ whoM b x = 2 := by
  rw [whoM]
  rcases whoOf_cases x with ⟨h, h2⟩ | ⟨h, h2⟩ | h <;> rw [h] <;> cases b <;> simp_all
theorem pre_of_line {s w : Str} (h : lineOk s w = true) : Lib.hasPrefix s w = true := by
  rw [lineOk] at h
  rcases cut_nl s with ⟨_, k, _, _, h3, _⟩ | ⟨h1, _⟩
  · rw [h3] at h
    simp only [Bool.and_eq_true, Lib.hasPrefix, List.isPrefixOf_iff_prefix] at h ⊢
    exact h.2.trans (List.take_prefix _ _)
  · rw [h1] at h; simp at h
def nlBad (s : Str) : Bool := decide (s = []) || decide (¬ ((s.getD 0 0).toNat : Int) = 10)
theorem nl_line (s : Str) (e : Int) : (if lineV s [] = [] then lnE s [] e else failE (lnE s [] e) 2) = (if nlBad s = true then 2 else e) ∧ (nlBad s = false → lineR s [] = s.drop 1) := by
  have hp : ∀ t : Str, Lib.hasPrefix t [] = true := fun t => by simp [Lib.hasPrefix]
  have hok : lineOk s [] = (Lib.cut s [10]).2.2 := by rw [lineOk, hp, Bool.and_true]
  rcases cut_nl s with ⟨h1, k, hk, h2, h3, h4⟩ | ⟨h1, hk⟩
  · have hv : lineV s [] = s.take k := by rw [lineV, hok, h1, if_pos rfl, Lib.trimPrefix, hp, if_pos rfl, h3]; rfl
    have hr : lineR s [] = s.drop (k + 1) := by rw [lineR, hok, h1, if_pos rfl, h4]
    have hl : lnE s [] e = e := by rw [lnE, hok, h1]; rfl
    rw [hv, hr, hl, failE_two]
    cases s with
    | nil => simp at h2
    | cons b r =>
      rw [Go.Graft.index_one_cons] at hk
      by_cases hb : b = 10
      · rw [if_pos hb] at hk
        have : k = 0 := by omega
        subst this; subst hb
        have hn : nlBad (10 :: r) = false := by
          rw [nlBad, decide_eq_false (by simp), decide_eq_false (fun h => h (by show ((UInt8.toNat 10 : Nat) : Int) = 10; decide))]; rfl
        rw [hn]
        exact ⟨rfl, fun _ => rfl⟩
      · have hk0 : k ≠ 0 := by
          rintro rfl
          rw [if_neg hb] at hk
          have := Lib.index_ge r [10]
          split at hk <;> omega
        have hn : nlBad (b :: r) = true := by
          have hb2 : ¬ ((b.toNat : Int) = 10) := fun h => hb (UInt8.toNat.inj (by
            have : b.toNat = 10 := by omega
            rw [this]; rfl))
          rw [nlBad, Bool.or_eq_true]
          exact .inr (decide_eq_true hb2)
        have ht : ¬ (b :: r).take k = [] := by
          cases k with
          | zero => exact absurd rfl hk0
          | succ k => simp
        rw [hn, if_neg ht]
        exact ⟨rfl, fun h => by simp at h⟩
  · have hok2 : lineOk s [] = false := by rw [hok, h1]
    have hn : nlBad s = true := by
      cases s with
      | nil => rfl
      | cons b r =>
        rw [Go.Graft.index_one_cons] at hk
        have hb : ¬ b = 10 := by
          rintro rfl
          simp at hk
        have hb2 : ¬ ((b.toNat : Int) = 10) := fun h => hb (UInt8.toNat.inj (by
          have : b.toNat = 10 := by omega
          rw [this]; rfl))
        rw [nlBad, Bool.or_eq_true]
        exact .inr (decide_eq_true hb2)
    rw [lineV_no hok2, hn, if_pos rfl, lnE, hok2]
    exact ⟨by simp [failE_two], fun h => by simp at h⟩
theorem parsP_two : ∀ (f : Nat) (s : Str) (l : List Str), parsP f s 2 l = (s, 2, l)
  | 0, s, l => rfl
  | f + 1, s, l => by rw [parsP, if_neg (by simp)]
theorem pars_same : ∀ (f : Nat) (s : Str) (l : List Str), s.length < f →
    match parsR f s l with
    | none => (parsP f s 0 l).2.1 = 2
    | some (s2, l2) => parsP f s 0 l = (s2, 0, l2) ∨ ((parsP f s 0 l).2.1 = 2 ∧ Lib.hasPrefix s2 kPar = true)
  | 0, s, l, h => by omega
  | f + 1, s, l, h => by
    rw [parsR, parsP]
    by_cases hp : Lib.hasPrefix s kPar = true
    · have hc : (0 : Int) = 0 ∧ Lib.hasPrefix s kPar = true := ⟨rfl, hp⟩
      rw [if_pos hc, rdId_zero]
      by_cases hl : lineOk s kPar = true
      · rw [if_pos hl, hl, Bool.true_and]
        by_cases hi : isId (lineV s kPar) = true
        · rw [if_pos hi, if_pos hi]
          exact pars_same f _ _ (by have := lineR_short s kPar hl; omega)
        · rw [if_neg hi, if_neg hi]
          simp only [parsP_two]
      · have hl : lineOk s kPar = false := by simpa using hl
        rw [hl]
        simp only [Bool.false_and, Bool.false_eq_true, if_false, parsP_two]
        exact .inr ⟨trivial, hp⟩
    · have hl : ¬ lineOk s kPar = true := fun h => hp (pre_of_line h)
      have hc : ¬ ((0 : Int) = 0 ∧ Lib.hasPrefix s kPar = true) := fun h => hp h.2
      rw [if_neg hl, if_neg hc]
      exact .inl rfl
theorem pre_two {s : Str} (h : Lib.hasPrefix s kPar = true) : lineOk s kAut = false := by
  cases h2 : lineOk s kAut with
  | false => rfl
  | true =>
    exfalso
    have h3 := pre_of_line h2
    cases s with
    | nil => simp [Lib.hasPrefix, kPar] at h
    | cons b r =>
      simp only [Lib.hasPrefix, kPar, kAut, List.isPrefixOf, Bool.and_eq_true, beq_iff_eq] at h h3
      rw [← h.1] at h3
      exact absurd h3.1 (by decide)
theorem com_same (s : Str) : comP s = comR s := by
  rw [comP, comR]
  simp only [rdId_zero, (nl_line _ _).1]
  cases h1 : lineOk s kTree && isId (lineV s kTree) with
  | false =>
    simp only [Bool.false_eq_true, if_false, if_true]
    have hq : parsOf (lineR s kTree) 2 = (lineR s kTree, 2, []) := by rw [parsOf, parsP_two]
    rw [hq]
    simp only [rdWho_two]
    split <;> simp
  | true =>
    simp only [if_true, Bool.true_eq_false, if_false]
    have hp := pars_same ((lineR s kTree).length + 1) (lineR s kTree) [] (by omega)
    rw [parsOf]
    generalize parsP ((lineR s kTree).length + 1) (lineR s kTree) 0 [] = q at hp ⊢
    cases hr : parsR ((lineR s kTree).length + 1) (lineR s kTree) [] with
    | none =>
      rw [hr] at hp
      simp only at hp
      rw [hp]
      simp only [rdWho_two]
      split <;> simp
    | some p =>
      obtain ⟨s2, l⟩ := p
      rw [hr] at hp
      simp only at hp ⊢
      rcases hp with rfl | ⟨hp, hq⟩
      · simp only [rdWho_zero]
        have hn : ∀ t : Str, (decide (t = []) || decide (¬ ((t.getD 0 0).toNat : Int) = 10)) = nlBad t := fun _ => rfl
        have hm := whoM_cases (lineOk s2 kAut) (lineV s2 kAut)
        generalize whoM (lineOk s2 kAut) (lineV s2 kAut) = m at hm ⊢
        generalize lineR s2 kAut = s3
        have hk := whoM_cases (lineOk s3 kCom) (lineV s3 kCom)
        have h0 := rdWho_zero s3 kCom
        have h1 := rdWho_one s3 kCom
        have h2 := rdWho_two s3 kCom
        generalize whoM (lineOk s3 kCom) (lineV s3 kCom) = n at hk h0 h1 ⊢
        have hnl := (nl_line (lineR s3 kCom) 0).2
        simp only [Bool.or_assoc, hn]
        cases hb : nlBad (lineR s3 kCom) with
        | true => simp
        | false =>
          rw [hnl hb]
          have e10 : (2 : Int) - 1 = 1 := rfl
          have e20 : (2 : Int) - 2 = 0 := rfl
          have e00 : (2 : Int) - 0 = 2 := rfl
          rcases hm with rfl | ⟨rfl, _⟩ | rfl <;> rcases hk with rfl | ⟨rfl, _⟩ | rfl <;> simp only [e10, e20, e00, h0, h1, h2] <;> simp <;> split <;> simp_all
      · rw [hp]
        simp only [rdWho_two]
        have : whoM (lineOk s2 kAut) (lineV s2 kAut) = 0 := by rw [pre_two hq]; simp [whoM]
        rw [this]
        simp
theorem tg_same (s : Str) : tgP s = tgR s := by
  rw [tgP, tgR]
  simp only [rdId_zero, (nl_line _ _).1]
  have hn : ∀ t : Str, (decide (t = []) || decide (¬ ((t.getD 0 0).toNat : Int) = 10)) = nlBad t := fun _ => rfl
  simp only [Bool.or_assoc, hn]
  have hz : zeroPer.ok = false := by decide
  have key : ∀ e : Int, (e = 0 ∨ e = 2) → ∀ s w, lnE s w e = if lineOk s w = true then e else 2 := fun e he s w => by
    rw [lnE]; split <;> simp [failE_two]
  have k0 : kindW [] = 0 := by decide
  have hk1 : lineOk (lineR s kObj) kTyp = false → kindW (lineV (lineR s kObj) kTyp) = 0 := fun h => by rw [lineV_no h, k0]
  generalize lineR s kObj = s1 at hk1 ⊢
  generalize hkw : kindW (lineV s1 kTyp) = kw at hk1 ⊢
  generalize lineR s1 kTyp = s2
  generalize lineR s2 kTag = s3
  have h0 := rdWho_zero s3 kTgr
  have h2 := rdWho_two s3 kTgr
  have hm := whoM_cases (lineOk s3 kTgr) (lineV s3 kTgr)
  have hnl := (nl_line (lineR s3 kTgr) 0).2
  generalize whoM (lineOk s3 kTgr) (lineV s3 kTgr) = m at hm h0 ⊢
  generalize lineR s3 kTgr = s4 at hnl ⊢
  cases hb : nlBad s4 with
  | true => simp
  | false =>
    rw [hnl hb]
    by_cases hi : (lineOk s kObj && isId (lineV s kObj)) = true
    · rw [if_pos hi]
      simp only [Bool.and_eq_true] at hi
      rw [hi.1, hi.2, key 0 (.inl rfl)]
      by_cases hw : kw = 0
      · subst hw
        simp only [if_true, failE_two, key 2 (.inr rfl), ite_self, h2]
        simp
      · have hl1 : lineOk s1 kTyp = true := by
          cases h : lineOk s1 kTyp with
          | true => rfl
          | false => exact absurd (hk1 h) hw
        rw [if_neg hw, hl1, if_pos rfl, key 0 (.inl rfl)]
        cases hl2 : lineOk s2 kTag with
        | false => simp [h2]
        | true =>
          simp only [if_true, h0]
          rcases hm with rfl | ⟨rfl, hp⟩ | rfl
          · simp
          · have : tgE ⟨lineV s kObj, kw, lineV s2 kTag, (whoOf (lineV s3 kTgr)).2, s4.drop 1⟩ = 1 := by rw [tgE, tgBad, hp, hz]; simp
            rw [this]
            simp [hw]
          · simp [hw]
    · rw [if_neg hi]
      have hor : (!lineOk s kObj || !isId (lineV s kObj)) = true := by
        cases h : lineOk s kObj <;> cases h' : isId (lineV s kObj) <;> simp_all
      have h5 : (if kw = 0 then failE (lnE s1 kTyp 2) 2 else lnE s1 kTyp 2) = 2 := by
        rw [key 2 (.inr rfl)]; simp [failE_two]
      rw [h5, key 2 (.inr rfl), ite_self, h2]
      cases h : lineOk s kObj <;> cases h' : isId (lineV s kObj) <;> simp_all
end Go.Graft
namespace Go.Graft
open Go.Sym
def pathBad (p : Str) : Bool := decide (p = []) || decide (255 < (p.length : Int))
theorem allS_false {l : List Str} {q : Str → Bool} {i : Nat} (h : i < l.length) (hq : q l[i]! = false) : l.all q = false := by
  rw [List.all_eq_false]
  refine ⟨l[i], List.getElem_mem h, ?_⟩
  rw [getElem!_pos l i h] at hq
  simpa using hq
theorem allS_true {l : List Str} {q : Str → Bool} (h : ∀ i, i < l.length → q l[i]! = true) : l.all q = true := by
  rw [List.all_eq_true]
  intro x hx
  obtain ⟨i, hi, rfl⟩ := List.getElem_of_mem hx
  have := h i hi
  rwa [getElem!_pos l i hi] at this
theorem pathOk_eq (p : Str) : pathOk p = (!pathBad p && (splitC 47 p).all partOk && decide (((splitC 47 p).length : Int) ≤ 16)) := by
  rw [pathOk, pathBad]
  have e : decide ((p.length : Int) ≤ 255) = !decide (255 < (p.length : Int)) := by rw [← decide_not]; exact decide_eq_decide.2 (by omega)
  have e2 : decide (p ≠ []) = !decide (p = []) := decide_not
  rw [e, e2, Bool.not_or]
theorem pathOk_bad {p : Str} (h : pathBad p = true) : pathOk p = false := by rw [pathOk_eq, h]; rfl
theorem pathOk_part {p : Str} {i : Nat} (h : i < (splitC 47 p).length) (hq : partOk (splitC 47 p)[i]! = false) : pathOk p = false := by
  rw [pathOk_eq, allS_false h hq, Bool.and_false, Bool.false_and]
theorem pathOk_end {p : Str} (hb : pathBad p = false) (h : ∀ i, i < (splitC 47 p).length → partOk (splitC 47 p)[i]! = true) : pathOk p = decide (((splitC 47 p).length : Int) ≤ 16) := by
  rw [pathOk_eq, allS_true h, hb]; rfl
def partsOf (p : Str) : List Str := if p = [] then [] else splitC 47 p
theorem partsOf_len (p : Str) : (partsOf p).length ≤ p.length + 1 := by
  rw [partsOf]
  split
  · simp
  · exact (splitC_length 47 p).2
theorem partsOf_mem {p x : Str} (h : x ∈ partsOf p) : x.length ≤ p.length ∧ partOk2 x = partOk x := by
  rw [partsOf] at h
  split at h
  · simp at h
  · exact ⟨splitC_mem_len 47 p x h, part_same rfl h⟩
def partsBad (p : Str) : Bool := decide (((partsOf p).length : Int) < 1) || decide (16 < ((partsOf p).length : Int)) || decide (255 < (p.length : Int))
theorem pathOk_parts (p : Str) : pathOk p = (!partsBad p && (partsOf p).all partOk) := by
  by_cases h : p = []
  · subst h; rfl
  · have h1 := (splitC_length 47 p).1
    rw [pathOk_eq, pathBad, partsBad, partsOf, if_neg h]
    generalize (splitC 47 p).all partOk = a
    generalize (splitC 47 p).length = n at *
    rw [decide_eq_false h]
    have e1 : decide ((n : Int) < 1) = false := decide_eq_false (by omega)
    have e2 : decide (16 < (n : Int)) = !decide ((n : Int) ≤ 16) := by rw [← decide_not]; exact decide_eq_decide.2 (by omega)
    rw [e1, e2]
    cases decide (255 < (p.length : Int)) <;> cases decide ((n : Int) ≤ 16) <;> cases a <;> rfl
theorem bang_mem {α : Type} [Inhabited α] {l : List α} {i : Nat} (h : i < l.length) : l[i]! ∈ l := by
  rw [getElem!_pos l i h]; exact List.getElem_mem h
def Cuts (p : Str) (F : List Str) (a i : Nat) : Prop := a ≤ i ∧ i ≤ p.length ∧ F.length ≤ i ∧ F ++ pre ((p.take i).drop a) (splitC 47 (p.drop i)) = splitC 47 p
theorem cuts_zero (p : Str) : Cuts p [] 0 0 := ⟨Nat.le_refl _, Nat.zero_le _, Nat.le_refl _, by rw [List.take_zero]; exact pre_nil _⟩
theorem cuts_at {p : Str} {F : List Str} {a i : Nat} (h : Cuts p F a i) (hi : i < p.length) (hc : p.getD i 0 = 47) : Cuts p (F ++ [(p.take i).drop a]) (i + 1) (i + 1) := by
  obtain ⟨h1, h2, h3, h4⟩ := h
  refine ⟨Nat.le_refl _, hi, by simp; omega, ?_⟩
  rw [splitC_at 47 p i hi, if_pos hc] at h4
  have e : (p.take (i + 1)).drop (i + 1) = [] := by simp [List.drop_eq_nil_iff]
  rw [e, pre_nil, ← h4, List.append_assoc]
  simp [pre]
theorem cuts_on {p : Str} {F : List Str} {a i : Nat} (h : Cuts p F a i) (hi : i < p.length) (hc : ¬ p.getD i 0 = 47) : Cuts p F a (i + 1) := by
  obtain ⟨h1, h2, h3, h4⟩ := h
  refine ⟨by omega, hi, by omega, ?_⟩
  rw [splitC_at 47 p i hi, if_neg hc, pre_pre] at h4
  rw [← h4, take_snoc p i hi, List.drop_append_of_le_length (by rw [List.length_take]; omega), getD_bang]
theorem cuts_end {p : Str} {F : List Str} {a : Nat} (h : Cuts p F a p.length) : F ++ [(p.take p.length).drop a] = splitC 47 p := by
  obtain ⟨h1, h2, h3, h4⟩ := h
  rw [List.drop_length] at h4
  simpa [splitC, pre] using h4
end Go.Graft
namespace Go.Sym
theorem uses_plain_all {ns : List Nat} : (∀ p, plain p = true → usesOnly ns p = true) ∧ (∀ ps, plainL ps = true → usesOnlyL ns ps = true) := by
  have c : ∀ p, plain p = true → usesOnly ns p = true := by
    intro p
    refine @PV.rec (fun p => plain p = true → usesOnly ns p = true) (fun ps => plainL ps = true → usesOnlyL ns ps = true) ?_ ?_ ?_ ?_ ?_ ?_ ?_ ?_ ?_ ?_ ?_ ?_ ?_ ?_ ?_ ?_ p
    · exact fun x _ => rfl
    · exact fun cs ih h => by simp only [usesOnly]; exact ih (by simpa [plain] using h)
    · exact fun cs ih h => by simp only [usesOnly]; exact ih (by simpa [plain] using h)
    · exact fun nl sz es _ _ => rfl
    · exact fun cs _ _ => rfl
    · exact fun o off h => by simp [plain] at h
    · exact fun o i off n h => by simp [plain] at h
    · exact fun o off len n h => by simp [plain] at h
    · exact fun fn f cc i1 i2 h => by simp [plain] at h; simp only [usesOnly, i1 h.1, i2 h.2, Bool.and_self]
    · exact fun t x ih h => by simp only [usesOnly]; exact ih (by simpa [plain] using h)
    · exact fun b x _ h => by simp [plain] at h
    · exact fun _ => rfl
    · exact fun o h => by simp [plain] at h
    · exact fun _ _ _ _ _ => rfl
    · exact fun _ => rfl
    · exact fun c cs i1 i2 h => by simp [plainL] at h; simp only [usesOnlyL, i1 h.1, i2 h.2, Bool.and_self]
  refine ⟨c, fun ps => ?_⟩
  induction ps with
  | nil => exact fun _ => rfl
  | cons d ds ih => exact fun h => by simp [plainL] at h; simp only [usesOnlyL, c d h.1, ih h.2, Bool.and_self]
theorem usesOnlyL_plain {ns : List Nat} {ps : List PV} (h : plainL ps = true) : usesOnlyL ns ps = true := uses_plain_all.2 ps h
end Go.Sym
namespace Go.Sym
open Go.RowKit
theorem rows_of {w : World} {F : Nat → Prop} {b : Nat} (hF : ¬ F b) {α : Type} (f : α → PV) (v : α → Value) (hf : ∀ x, (f x).cells = [f x]) (hr : ∀ x, Rep w F noL (f x) (v x)) : ∀ (l : List α) (off : Nat), (∀ (j : Nat) x, l[j]? = some x → w.cell? ⟨b, off + j, none⟩ = some (v x)) → Rows w F 1 (l.map f) b off
  | [], off, _ => .nil _ _ _
  | x :: l, off, h => by
    refine .cons (by rw [hf]; rfl) ?_ (rows_of hF f v hf hr l (off + 1) fun j y hy => by rw [show off + 1 + j = off + (j + 1) by omega]; exact h (j + 1) y (by simpa using hy))
    rw [hf]
    exact .cons (by simpa using h 0 x rfl) hF (hr x) (.nil _ _)
theorem Ctr.of_new {P : Program} [Globs P] {f : FuncId} {ps : List PV} {r : PV} {xs : List Value} (hc : callable P f) (hps : ps = xs.map .v)
    (h : ∀ w, Globals P w → Calls P f xs.toArray w fun e w' => ∃ y, e = .returned y ∧ Grown w w' ∧ ∀ F L, (∀ b, w.heap.size ≤ b → ¬ F b) → Rep w' F L r y) : Ctr P f ps [] r [] [] := by
  refine ⟨hc, fun fr w vals h0 hG hM hv => ?_⟩
  subst hps
  have hvals : ∀ (xs vals : List Value), RepL w (fr.F fr.L0) fr.L0 (xs.map .v) vals → vals = xs := by
    intro xs
    induction xs with
    | nil => intro vals h; cases h; rfl
    | cons x r ih => intro vals h; cases h with | cons h1 h2 => rw [h1.inv_v, ih _ h2]
  rw [hvals xs vals hv]
  refine (h w (fun x hx => hM.frame.glob x (hG ▸ hx))).mono ?_
  rintro e w' ⟨y, rfl, hg, hr⟩
  have hno : ∀ n l, fr.L0 n = some l → False := fun n l hn => by
    obtain ⟨ob, hob⟩ := hM.dom n l hn
    simp [named, St.obj, look] at hob
  refine ⟨y, fr.L0, rfl, rfl, ⟨fun n ob hn => ?_, fun n l hn => (hno n l hn).elim, fun n n' l l' b hn => (hno n l hn).elim, fun n l b hn => (hno n l hn).elim, fun n l p hn => (hno n l hn).elim, hM.parLt, hM.xLt, ?_, hM.lext⟩, hr _ _ fun b hb hF => ?_⟩
  · simp [named, St.obj, look] at hn
  · exact hM.frame.grow hM.parLt.1 hg.os hg.tape hg.output hg.size hg.old
  · rcases hF with hF | ⟨o, l, h1, h2⟩
    · have := hM.xLt b hF; rw [h0] at this; omega
    · exact hno o l h1
theorem cells_s (l : List (List UInt8)) : cellsOf (l.map fun s => sV s) = l.map fun s => sV s := by
  induction l with
  | nil => rfl
  | cons b r ih => simp only [List.map_cons, cellsOf, List.flatMap_cons, PV.cells] at ih ⊢; rw [ih]; rfl
theorem Ctr.of_sort {P : Program} [Globs P] {f : FuncId} {n : Nat} {nl : Bool} {l l2 : List (List UInt8)} (hc : callable P f) (hn : n = l.length) (hlen : l2.length = l.length) (hnil : l = [] → l2 = [])
    (h0 : ∀ w, Calls P f #[.slice none 0 0] w fun e w' => e = .returned (.tuple #[]) ∧ w' = w)
    (h : ∀ (w : World) (blk off cap : Nat), Go.Sort.Holds Go.Proofs.encStr w blk off l.toArray → blk < w.heap.size → Calls P f #[.slice (some ⟨blk, off, none⟩) l.length cap] w fun e w' => e = .returned (.tuple #[]) ∧ ∃ n os, w' = Go.Sort.grow (Go.Sort.putRow Go.Proofs.encStr (Go.Sort.ahead w n) blk off l2.toArray) os) :
    Ctr P f [.osl PN 0 n n] [.arr 1 nl (l.map fun s => sV s)] (.tup []) [.arr 1 nl (l2.map fun s => sV s)] [] := by
  subst hn
  refine ⟨hc, fun fr w vals h00 hG hM hv => ?_⟩
  cases hv with
  | cons hv1 hv2 =>
  cases hv2
  obtain ⟨lc, h1, h2⟩ := hM.objs PN (.arr 1 nl (l.map fun s => sV s)) (by simp [named, St.obj, look_cons])
  cases lc with
  | arr base n' cap sz' =>
    obtain ⟨rfl, rfl, k3, rfl, k5, k6⟩ := h2
    have hmapl : (l.map fun s => sV s).length = l.length := by simp
    cases hv1 with
    | osl q1 q2 q3 =>
    rw [h1] at q1; cases q1
    obtain ⟨_, q5⟩ := q2.2 (by simp)
    have hno : ∀ k lk, fr.L0 k = some lk → k = PN := fun k lk hk => by
      obtain ⟨ob, hob⟩ := hM.dom k lk hk
      simp only [named, St.obj, look_cons, look] at hob
      split at hob
      · rename_i e; exact e.symm
      · simp at hob
    have hM2 : ∀ w' : World, (∀ k, fr.L0 k = some (.arr base (l.map fun s => sV s).length cap 1) → True) → R fr ⟨[], named PN [.arr 1 base.isNone (l.map fun s => sV s)]⟩ fr.L0 ({ tmps := Array.replicate fr.nt undef, defers := [] } : Act) w := fun _ _ => ⟨hM, by simp, rfl, fun t p hp => by simp [St.get, look] at hp⟩
    have hR := hM2 w fun _ _ => trivial
    cases base with
    | none =>
      subst q5
      have hl0 : l.length = 0 := by simp at k3; omega
      have hl : l = [] := List.length_eq_zero_iff.1 hl0
      subst hl
      have hl2 := hnil rfl
      subst hl2
      refine (h0 w).mono ?_
      rintro e w' ⟨rfl, rfl⟩
      exact ⟨_, _, rfl, rfl, hM.eqv ⟨fun _ => rfl, fun k => by simp [named]⟩, .tup (.nil _)⟩
    | some bo =>
      obtain ⟨b, off⟩ := bo
      obtain ⟨qo, cc, rfl, _, _, q8, q9⟩ := q5
      have hqo : qo = off := by simpa using q8 rfl
      subst hqo
      obtain ⟨k6, k7⟩ := k6
      rw [cells_s] at k6
      have hcell : ∀ (j : Nat) s, l[j]? = some s → w.cell? ⟨b, qo + j, none⟩ = some (.string ⟨⟨s⟩⟩) ∧ w.frozen? ⟨b, qo + j, none⟩ = false := fun j s hj => by
        obtain ⟨x, m1, m2, m3⟩ := k6 j (sV s) (by rw [List.getElem?_map, hj]; rfl)
        rw [m3.inv_v] at m1
        exact ⟨m1, m2⟩
      have hplace := hM.place PN _ b h1 rfl
      have hblt : b < w.heap.size := by
        rcases hplace.2 with hp | ⟨p, hp, hpr⟩
        · exact hp.2
        · have := blk_of_range hpr
          simp [Loc.blk] at this
          have h3 := hM.parLt.1 p hp
          rw [h00] at h3
          omega
      have hkind := hM.kind PN _ (b, qo, cap * 1) h1 rfl
      refine (h w b qo cc (fun j hj => ?_) hblt).mono ?_
      · have hj' : j < l.length := by simpa using hj
        have := hcell j l[j] (List.getElem?_eq_getElem hj')
        rw [getElem!_pos _ j hj]
        simpa [Go.Proofs.encStr] using this
      rintro e w' ⟨rfl, m, os, rfl⟩
      obtain ⟨c, ety, f, hcb, hcf⟩ := hkind
      have hcb : w.heap[b]? = some (.cells c ety f) := hcb
      have hsz : (Go.Sort.putRow Go.Proofs.encStr (Go.Sort.ahead w m) b qo l2.toArray).heap.size = w.heap.size := by simp [Go.Sort.putRow, Go.Sort.mapBlock, Go.Sort.ahead]
      have hbk : (Go.Sort.putRow Go.Proofs.encStr (Go.Sort.ahead w m) b qo l2.toArray).heap[b]? = some (.cells (Go.Sort.putCells Go.Proofs.encStr qo l2.toArray c) ety f) := by
        simp [Go.Sort.putRow, Go.Sort.mapBlock, Go.Sort.ahead, hcb, Array.getElem?_modify, Go.Sort.onCells]
      have hoth : ∀ k, k ≠ b → (Go.Sort.putRow Go.Proofs.encStr (Go.Sort.ahead w m) b qo l2.toArray).heap[k]? = w.heap[k]? := fun k hk => by
        simp [-Array.getElem?_eq_getElem, Go.Sort.putRow, Go.Sort.mapBlock, Go.Sort.ahead, Array.getElem?_modify, Ne.symm hk]
      generalize hw1 : Go.Sort.putRow Go.Proofs.encStr (Go.Sort.ahead w m) b qo l2.toArray = w1 at *
      have hw1o : w1.os = w.os ∧ w1.tape = w.tape ∧ w1.output = w.output := by subst hw1; exact ⟨rfl, rfl, rfl⟩
      have hgs : ∀ k, k < w1.heap.size → (Go.Sort.grow w1 os).heap[k]? = w1.heap[k]? := fun k hk => by simp [Go.Sort.grow, Array.getElem?_append, hk]
      have hgsz : w1.heap.size ≤ (Go.Sort.grow w1 os).heap.size := by simp [Go.Sort.grow]
      have hput : ∀ j : Nat, j < c.size → (Go.Sort.putCells Go.Proofs.encStr qo l2.toArray c)[j]? = if qo ≤ j ∧ j < qo + l2.length then some (Go.Proofs.encStr l2[j - qo]!) else c[j]? := fun j hj => by
        simp only [Go.Sort.putCells, Array.getElem?_mapIdx, Array.getElem?_eq_getElem hj, Option.map_some, List.size_toArray]
        split
        · simp
        · rfl
      have htouch : Touch w w1 b qo (cap * 1) := by
        refine ⟨hw1o.1, hw1o.2.1, hw1o.2.2, hsz, hoth, fun c0 e0 f0 hc0 => ?_, fun hn => absurd hcb (hn _ _ _)⟩
        rw [hcb] at hc0; cases hc0
        refine ⟨_, hbk, by simp [Go.Sort.putCells], fun j hj => ?_⟩
        by_cases hjc : j < c.size
        · rw [hput j hjc, if_neg (by have : l2.length ≤ cap := by rw [hlen]; simpa using k3
                                     omega)]
        · rw [Array.getElem?_eq_none (by simp [Go.Sort.putCells]; omega), Array.getElem?_eq_none (by omega)]
      have hF1 : Frame0 fr w1 := by
        refine hM.frame.touch htouch ?_ ?_
        · rcases hplace.2 with hp | ⟨p, hp, hpr⟩
          · exact .inl hp.1
          · cases hpr; exact .inr hp
        · intro p hp hpb
          rcases hplace.2 with hp2 | ⟨p', hp', hpr⟩
          · have := hM.parLt.1 p hp; omega
          · cases hpr; exact hM.parLt.2 p hp _ hp' hpb
      have hF2 : Frame0 fr (Go.Sort.grow w1 os) := hF1.grow hM.parLt.1 rfl rfl rfl hgsz hgs
      have hcell2 : ∀ (k o : Nat), k < w1.heap.size → (Go.Sort.grow w1 os).cell? ⟨k, o, none⟩ = w1.cell? ⟨k, o, none⟩ := fun k o hk => World.cell?_of_block (w := w1) (hgs k hk)
      have hfr2 : ∀ (k o : Nat), k < w1.heap.size → (Go.Sort.grow w1 os).frozen? ⟨k, o, none⟩ = w1.frozen? ⟨k, o, none⟩ := fun k o hk => World.frozen?_of_block (w := w1) (hgs k hk)
      have hbl1 : b < w1.heap.size := by omega
      have hat : ∀ k, w1.cell? ⟨b, k, none⟩ = (Go.Sort.putCells Go.Proofs.encStr qo l2.toArray c)[k]? := fun k => by simp [World.cell?, hbk]
      have hcap : l.length ≤ cap := by simpa using k3
      have hcsz : ∀ j, j < cap * 1 → qo + j < c.size := fun j hj => by
        obtain ⟨x, m1, _⟩ := k7 j hj
        simp only [World.cell?, hcb] at m1
        exact (Array.getElem?_eq_some_iff.1 m1).1
      obtain ⟨g1, _, _⟩ := R.step' hR PN (.arr 1 false (l2.map fun s => sV s)) (.arr (some (b, qo)) (l.map fun s => sV s).length cap 1) hF2 (by omega) (fun k hk hne => by
          have hkb : k ≠ b := by rintro rfl; exact hne _ h1 rfl
          rw [hgs k (by omega)]; exact hoth k hkb) (fun l0 h => by rw [h1] at h; cases h; exact Loc.le_refl _)
        (fun b' hb' => .inl ⟨_, h1, hb', rfl⟩) (fun p hp => by
          simp [Loc.range] at hp; subst hp
          refine ⟨_, _, _, by rw [hgs b hbl1]; exact hbk, ?_⟩
          have : (Go.Sort.putCells Go.Proofs.encStr qo l2.toArray c).size = c.size := by simp [Go.Sort.putCells]
          rw [this]; exact hcf)
        (fun hext hlx => by
          refine ⟨rfl, by simp [hlen], k3, rfl, fun e he => by obtain ⟨s, _, rfl⟩ := List.mem_map.1 he; rfl, fun j p hj => ?_, fun j hj => ?_⟩
          · rw [cells_s, List.getElem?_map] at hj
            cases hs : l2[j]? with
            | none => rw [hs] at hj; simp at hj
            | some s =>
              rw [hs] at hj; simp at hj; subst hj
              have hjl : j < l2.length := (List.getElem?_eq_some_iff.1 hs).1
              have hjc : qo + j < c.size := hcsz j (by omega)
              refine ⟨.string ⟨⟨s⟩⟩, ?_, ?_, .v _ _⟩
              · rw [hcell2 b _ hbl1]
                rw [hat, hput _ hjc, if_pos ⟨by omega, by omega⟩, show qo + j - qo = j by omega, getElem!_pos l2 j hjl]
                have := (List.getElem?_eq_some_iff.1 hs).2
                exact this ▸ rfl
              · rw [hfr2 b _ hbl1, htouch.frozen]
                obtain ⟨_, _, m2⟩ := k7 j (by omega)
                exact m2
          · rw [hcell2 b _ hbl1, hfr2 b _ hbl1, htouch.frozen]
            obtain ⟨_, _, m2⟩ := k7 j hj
            have hjc := hcsz j hj
            refine ⟨(Go.Sort.putCells Go.Proofs.encStr qo l2.toArray c)[qo + j]'(by simp [Go.Sort.putCells]; omega), ?_, m2⟩
            rw [hat]
            exact Array.getElem?_eq_getElem _)
      refine ⟨_, _, rfl, rfl, g1.mem.eqv ⟨fun _ => rfl, fun k => ?_⟩, .tup (.nil _)⟩
      rw [St.obj_upd]
      show (look [(PN, _)] k).or (look [(PN, _)] k) = look [(PN, _)] k
      by_cases hk : PN = k
      · rw [look_one, look_one, look_one, if_pos hk, if_pos hk, if_pos hk]; rfl
      · rw [look_one, look_one, look_one, if_neg hk, if_neg hk, if_neg hk]; rfl
  | box => exact h2.elim
  | gone => exact h2.elim
  | map => exact h2.elim
theorem Ret3 {T : Tbl} {S : St} {rv : List ResultVar} {p q o r t u : PV} (B : List Nat) (h : ResV T S rv [p, q, o]) (hB : B.all (fun o => Nat.blt o PN && !([] : List Nat).contains o) = true) (hc : ConvP S [] B p r) (hd : ConvP S [] B q t) (he : ConvP S [] B o u) : Returns T S rv (.tup [r, t, u]) [] [] :=
  ⟨[p, q, o], .tup [p, q, o], [], B, [], [], h, .many, .nil, .nil, rfl, rfl, hB, .nil, .nil, .tup (.cons hc (.cons hd (.cons he .nil)))⟩
end Go.Sym
