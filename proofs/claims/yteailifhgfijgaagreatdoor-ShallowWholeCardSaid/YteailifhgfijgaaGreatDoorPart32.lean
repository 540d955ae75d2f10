/- A part of the proof: GRef, Hu, Hv. -/
import Derived.Test.YteailifhgfijgaaGreatDoorPart31
set_option linter.unusedVariables false
set_option linter.unusedSimpArgs false
namespace Go.Graft
open Go.Sym
def lineA (s : Str) (a : Nat) (w : Str) : Nat := if lineOk (s.drop a) (w ++ [32]) then a + (Lib.index (s.drop a) [10]).toNat + 1 else a
def lineBad (s : Str) (a : Nat) (w : Str) : Bool := decide (findS s [10] a < 0) || decide (findS s [10] a - (a : Int) < ((w.length : Int) + 1)) || !decide ((s.take (a + (w.length + 1))).drop a = w ++ [32])
theorem line_find {s : Str} {a : Nat} (w : Str) (ha : a ≤ s.length) : lineBad s a w = !lineOk (s.drop a) (w ++ [32]) ∧ -1 ≤ findS s [10] a ∧ findS s [10] a < s.length ∧
    (lineOk (s.drop a) (w ++ [32]) = true → ∃ e : Nat, findS s [10] a = (e : Int) ∧ a + (w.length + 1) ≤ e ∧ (s.take e).drop (a + (w.length + 1)) = lineV (s.drop a) (w ++ [32]) ∧ s.drop (e + 1) = lineR (s.drop a) (w ++ [32]) ∧ lineA s a w = e + 1) := by
  have hlt : (s.drop a).length = s.length - a := List.length_drop
  have hsl : (s.take (a + (w.length + 1))).drop a = (s.drop a).take (w.length + 1) := by rw [List.drop_take, Nat.add_sub_cancel_left]
  rw [lineBad, hsl]
  have hwl : (w ++ [32]).length = w.length + 1 := by simp
  rcases cut_nl (s.drop a) with ⟨h1, k, hk, h2, h3, h4⟩ | ⟨h1, hk⟩
  · have hf : findS s [10] a = ((a + k : Nat) : Int) := by rw [findS, hk, if_neg (by omega)]; omega
    have hok : lineOk (s.drop a) (w ++ [32]) = Lib.hasPrefix ((s.drop a).take k) (w ++ [32]) := by rw [lineOk, h1, h3]; rfl
    have hpre : Lib.hasPrefix ((s.drop a).take k) (w ++ [32]) = (decide (w.length + 1 ≤ k) && decide ((s.drop a).take (w.length + 1) = w ++ [32])) := by
      rw [← begins_eq, hwl, List.length_take, List.take_take]
      by_cases hkw : w.length + 1 ≤ k
      · rw [Nat.min_eq_left hkw, decide_eq_true hkw, decide_eq_true (by omega : ((w.length + 1 : Nat) : Int) ≤ ((min k (s.drop a).length : Nat) : Int))]
      · rw [decide_eq_false hkw, decide_eq_false (by omega : ¬ ((w.length + 1 : Nat) : Int) ≤ ((min k (s.drop a).length : Nat) : Int))]
        rfl
    refine ⟨?_, by rw [hf]; omega, by rw [hf]; omega, fun h => ?_⟩
    · rw [hok, hpre, hf, decide_eq_false (by omega : ¬ ((a + k : Nat) : Int) < 0)]
      by_cases hkw : w.length + 1 ≤ k
      · rw [decide_eq_true hkw, decide_eq_false (by omega : ¬ ((a + k : Nat) : Int) - (a : Int) < (w.length : Int) + 1)]; rfl
      · rw [decide_eq_false hkw, decide_eq_true (by omega : ((a + k : Nat) : Int) - (a : Int) < (w.length : Int) + 1)]; rfl
    · have h' := h
      rw [hok, hpre] at h'
      simp only [Bool.and_eq_true, decide_eq_true_eq] at h'
      have hkw : w.length + 1 ≤ k := h'.1
      refine ⟨a + k, hf, by omega, ?_, ?_, ?_⟩
      · rw [lineV, if_pos h, h3, Lib.trimPrefix, if_pos (by rw [← hok]; exact h), hwl, List.drop_take, List.drop_take, List.drop_drop]
        rw [show a + k - (a + (w.length + 1)) = k - (w.length + 1) by omega]
      · rw [lineR, if_pos h, h4, List.drop_drop, Nat.add_assoc]
      · rw [lineA, if_pos h, hk, Int.toNat_natCast]
  · have hf : findS s [10] a = -1 := by rw [findS, hk]; rfl
    have hok : lineOk (s.drop a) (w ++ [32]) = false := by rw [lineOk, h1]; rfl
    refine ⟨?_, by rw [hf]; omega, by rw [hf]; omega, fun h => by rw [hok] at h; simp at h⟩
    rw [hok, hf]
    rfl
theorem lineA_drop {s : Str} {a : Nat} (w : Str) (ha : a ≤ s.length) : s.drop (lineA s a w) = lineR (s.drop a) (w ++ [32]) ∧ lineA s a w ≤ s.length := by
  by_cases h : lineOk (s.drop a) (w ++ [32]) = true
  · obtain ⟨_, _, h3, h4⟩ := line_find w ha
    obtain ⟨e, h5, _, _, h7, h8⟩ := h4 h
    rw [h8]; exact ⟨h7, by omega⟩
  · rw [lineA, if_neg h, lineR, if_neg h]; exact ⟨rfl, ha⟩
def comBad2 (c : Com) : Bool := !isId c.tree || !c.aut.ok || !c.com.ok || hasZ c.text
theorem comBad_eq (c : Com) : comBad c = (comBad2 c || c.pars.any fun p => !isId p) := by
  rw [comBad, comBad2]
  generalize isId c.tree = b1
  generalize (c.pars.any fun p => !isId p) = b2
  generalize c.aut.ok = b3
  generalize c.com.ok = b4
  generalize hasZ c.text = b5
  cases b1 <;> cases b2 <;> cases b3 <;> cases b4 <;> cases b5 <;> rfl
theorem any_take {α : Type} [Inhabited α] (q : α → Bool) (l : List α) (i : Nat) (h : i < l.length) : (l.take (i + 1)).any q = ((l.take i).any q || q l[i]!) := by
  rw [take_snoc l i h, List.any_append]; simp
theorem take_bang {α : Type} [Inhabited α] (l : List α) {i k : Nat} (hk : k < i) (hi : i ≤ l.length) : (l.take i)[k]! = l[k]! := by
  rw [getElem!_pos (l.take i) k (by rw [List.length_take]; omega), getElem!_pos l k (by omega), List.getElem_take]
theorem dup_yes {l : List Str} {i k : Nat} (hi : i < l.length) (hk : k < i) (h : l[i]! = l[k]!) : dupE l i = 6 := by
  rw [dupE, hasS_true (i := k) (by rw [List.length_take]; omega) (by rw [take_bang l hk (by omega)]; exact h.symm), if_pos rfl]
theorem dup_no {l : List Str} {i : Nat} (hi : i < l.length) (h : ∀ k, k < i → l[i]! ≠ l[k]!) : dupE l i = 0 := by
  rw [dupE, hasS_false fun k hk he => ?_]; · rfl
  rw [List.length_take] at hk
  rw [take_bang l (by omega) (by omega)] at he
  exact h k (by omega) he.symm
def tgBad2 (t : Tg) : Bool := !isId t.obj || decide (t.kind < 1) || decide (4 < t.kind) || decide ((t.name.length : Int) < 1) || decide (64 < (t.name.length : Int)) || !t.by'.ok || hasZ t.text
theorem tgBad_eq (t : Tg) : tgBad t = (tgBad2 t || tagBad t.name) := by
  have hk : decide (wordK t.kind = []) = (decide (t.kind < 1) || decide (4 < t.kind)) := by
    by_cases h : t.kind < 1 ∨ 4 < t.kind
    · have : wordK t.kind = [] := by
        rw [wordK, if_neg (by omega), if_neg (by omega), if_neg (by omega), if_neg (by omega)]
      rw [decide_eq_true this]
      rcases h with h | h
      · rw [decide_eq_true h]; rfl
      · rw [decide_eq_true h, Bool.or_true]
    · have : wordK t.kind ≠ [] := by
        obtain h1 | h1 | h1 | h1 : t.kind = 1 ∨ t.kind = 2 ∨ t.kind = 3 ∨ t.kind = 4 := by omega
        all_goals rw [h1]; decide
      rw [decide_eq_false this, decide_eq_false (by omega), decide_eq_false (by omega)]; rfl
  rw [tgBad, tgBad2, tagged, hk]
  have e1 : decide ((1 : Int) ≤ t.name.length) = !decide ((t.name.length : Int) < 1) := by rw [← decide_not]; exact decide_eq_decide.2 (by omega)
  have e2 : decide ((t.name.length : Int) ≤ 64) = !decide (64 < (t.name.length : Int)) := by rw [← decide_not]; exact decide_eq_decide.2 (by omega)
  rw [e1, e2]
  generalize isId t.obj = b1
  generalize decide (t.kind < 1) = b2
  generalize decide (4 < t.kind) = b3
  generalize decide ((t.name.length : Int) < 1) = b4
  generalize decide (64 < (t.name.length : Int)) = b5
  generalize t.by'.ok = b6
  generalize hasZ t.text = b7
  generalize tagBad t.name = b8
  cases b1 <;> cases b2 <;> cases b3 <;> cases b4 <;> cases b5 <;> cases b6 <;> cases b7 <;> cases b8 <;> rfl
def tagN (s : Str) (i : Nat) : Bool := (s.take i).any fun c => decide ((c.toNat : Int) ≤ 32)
theorem tagN_all (s : Str) : tagN s s.length = tagBad s := by rw [tagN, List.take_length]; rfl
theorem tagN_succ (s : Str) (i : Nat) (h : i < s.length) : tagN s (i + 1) = (tagN s i || decide (((s.getD i 0).toNat : Int) ≤ 32)) := by
  rw [tagN, any_take _ _ _ h, getD_bang]; rfl
def ParsR (s : Str) (a0 : Nat) (x : Nat × List Str) : Prop := (∃ f, (s.drop x.1).length < f ∧ parsR f (s.drop x.1) x.2 = parsR ((s.drop a0).length + 1) (s.drop a0) []) ∧ x.1 ≤ s.length ∧ x.2.length + (s.length - x.1) ≤ s.length ∧ ∀ p ∈ x.2, p.length ≤ s.length
theorem parsR_zero {s : Str} {a0 : Nat} (h : a0 ≤ s.length) : ParsR s a0 (a0, []) := ⟨⟨_, Nat.lt_succ_self _, rfl⟩, h, by simp, by simp⟩
theorem parsR_bad {s : Str} {a0 a : Nat} {l : List Str} (h : ParsR s a0 (a, l)) (h1 : lineOk (s.drop a) kPar = true) (h2 : isId (lineV (s.drop a) kPar) = false) : parsR ((s.drop a0).length + 1) (s.drop a0) [] = none := by
  obtain ⟨⟨f, h3, h4⟩, _⟩ := h
  cases f with
  | zero => omega
  | succ f => rw [← h4, parsR, if_pos h1, h2]; rfl
theorem parsR_next {s : Str} {a0 a a2 : Nat} {l : List Str} (h : ParsR s a0 (a, l)) (h1 : lineOk (s.drop a) kPar = true) (h2 : isId (lineV (s.drop a) kPar) = true) (ha : s.drop a2 = lineR (s.drop a) kPar) (ha2 : a2 ≤ s.length) : ParsR s a0 (a2, l ++ [lineV (s.drop a) kPar]) ∧ s.length - a2 < s.length - a := by
  obtain ⟨⟨f, h3, h4⟩, h5, h6, h7⟩ := h
  have h8 := lineR_short _ _ h1
  have hv := lineV_le (s.drop a) kPar
  rw [← ha] at h8
  simp only [List.length_drop] at h8 h3 h5 h6 hv
  refine ⟨⟨?_, ha2, by simp only [List.length_append, List.length_singleton]; omega, fun p hp => ?_⟩, by omega⟩
  · cases f with
    | zero => omega
    | succ f =>
      rw [parsR, if_pos h1, if_pos h2, ← ha] at h4
      exact ⟨f, by rw [List.length_drop]; simp only; omega, h4⟩
  · rcases List.mem_append.1 hp with hp | hp
    · exact h7 p hp
    · rw [List.mem_singleton.1 hp]; omega
theorem parsR_end {s : Str} {a0 a : Nat} {l : List Str} (h : ParsR s a0 (a, l)) (h1 : lineOk (s.drop a) kPar = false) : parsR ((s.drop a0).length + 1) (s.drop a0) [] = some (s.drop a, l) := by
  obtain ⟨⟨f, h3, h4⟩, _⟩ := h
  cases f with
  | zero => omega
  | succ f => rw [← h4, parsR, h1]; rfl
theorem comR_bad {s : Str} (h : (lineOk s kTree && isId (lineV s kTree)) = false) : comR s = (2, zeroCom) := by rw [comR, if_pos h]
theorem comR_none {s : Str} (h : (lineOk s kTree && isId (lineV s kTree)) = true) (h2 : parsR ((lineR s kTree).length + 1) (lineR s kTree) [] = none) : comR s = (2, zeroCom) := by
  rw [comR, if_neg (by rw [h]; simp), h2]
theorem comR_some {s s2 : Str} {l : List Str} (h : (lineOk s kTree && isId (lineV s kTree)) = true) (h2 : parsR ((lineR s kTree).length + 1) (lineR s kTree) [] = some (s2, l)) : comR s =
    (let x := lineV s2 kAut
     let s3 := lineR s2 kAut
     let y := lineV s3 kCom
     let s4 := lineR s3 kCom
     if (decide (whoM (lineOk s2 kAut) x = 0) || decide (whoM (lineOk s3 kCom) y = 0) || decide (s4 = []) || decide (¬ ((s4.getD 0 0).toNat : Int) = 10)) = true then (2, zeroCom)
     else if (decide (whoM (lineOk s2 kAut) x = 1) || decide (whoM (lineOk s3 kCom) y = 1)) = true then (1, zeroCom)
     else
      let c : Com := ⟨lineV s kTree, l, (whoOf x).2, (whoOf y).2, s4.drop 1⟩
      if comE c = 0 then (0, c) else (comE c, zeroCom)) := by
  rw [comR, if_neg (by rw [h]; simp), h2]
theorem drop_nil_iff (s : Str) (a : Nat) : decide (s.drop a = []) = decide ((s.length : Int) ≤ (a : Int)) := decide_eq_decide.2 (by rw [List.drop_eq_nil_iff]; omega)
end Go.Graft
namespace Go.Proofs.Tryz
open Go Go.Sym Go.Graft
set_option maxRecDepth 20000
theorem cLine16 (s w : Str) (a : Nat) (hs : s.length ≤ 1000000000) (ha : a ≤ s.length) (hw : w.length ≤ 1000) : Ctr prog 69 [sV s, iV a, sV w] [] (.tup [sV (lineV (s.drop a) (w ++ [32])), iV (lineA s a w), bV (lineOk (s.drop a) (w ++ [32]))]) [] [] := by
 have c1 := cFind16 s [10] a (by omega) (by simp) (by simp) (by omega)
 obtain ⟨h1, h2, h3, h4⟩ := line_find w ha
 have hno : lineOk (s.drop a) (w ++ [32]) = false → lineV (s.drop a) (w ++ [32]) = [] ∧ lineA s a w = a := fun h => ⟨lineV_no h, by rw [lineA, h]; rfl⟩
 have hb : lineBad s a w = (decide (findS s [10] a < 0) || decide (findS s [10] a - (a : Int) < ((w.length : Int) + 1)) || !decide ((s.take (a + (w.length + 1))).drop a = w ++ [32])) := rfl
 generalize lineBad s a w = lb at *
 generalize lineOk (s.drop a) (w ++ [32]) = ok at *
 generalize lineV (s.drop a) (w ++ [32]) = v at *
 generalize lineA s a w = a2 at *
 generalize findS s [10] a = f at *
 refine Ctr.enter tblOk func69 rfl (by decide) rfl (nt := 46) rfl rfl rfl rfl ?_
 refine Trip.sr tblOk ?_
 refine Trip.sR tblOk (by repeat' (first | exact rfl | (apply Rule.sem; intro hγ; with_reducible apply F_call0 (x := .func 114) (B := []) hγ (hspec := c1)) | ((with_reducible refine Side.mk ?_); exact .inl rfl) | constructor)) ?_
 refine Trip.sR tblOk (by repeat' (first | exact rfl | ((with_reducible refine Side.mk ?_); omega) | constructor)) ?_
 refine Trip.seq (Trip.sR tblOk (by repeat' (first | exact rfl | (apply Rule.under tblOk; intro hγ; with_reducible apply Rule.slice) | ((first | with_reducible refine bok ?_ | with_reducible refine Side.mk ?_); first | omega | exact fun h => h | exact fun _ h => congrArg Bool.not h | (simp only [ln]; first | done | omega) | exact fun _ => hγ | (have h2 := hγ; simp only [gpick, cond_true, cond_false, decide_eq_true_eq, Bool.and_eq_true, Bool.or_eq_true, Bool.not_eq_true', Bool.not_eq_false', Bool.or_eq_false_iff, decide_eq_false_iff_not, List.length_map] at h2; (try simp only [List.length_map]); omega)) | constructor)) ?_)
 apply Trip.cond (.tmp rfl)
 ·intro h
  have h : lb = true := by rw [hb]; exact h
  have h : ok = false := by rw [h1] at h; simpa using h
  subst h
  obtain ⟨g1, g2⟩ := hno rfl
  rw [g1, g2]
  refine Trip.sr tblOk ?_
  refine Trip.ret (rt3 [] (he := by repeat' (exact cvB (by simp only [List.length_map]))))
 intro h
 have h : lb = false := by rw [hb]; exact h
 have h : ok = true := by rw [h1] at h; simpa using h
 subst h
 obtain ⟨e, rfl, g1, g2, _, g3⟩ := h4 rfl
 rw [← g2, g3]
 refine Trip.skip (Trip.sR tblOk (by repeat' (first | exact rfl | ((first | with_reducible refine bok ?_ | with_reducible refine Side.mk ?_); omega) | constructor)) ?_)
 refine Trip.ret (rt3 [] (he := by repeat' (exact cvB (by simp only [List.length_map]))))
theorem cWho16 (x : Str) (b : Bool) (hx : x.length ≤ 1000000000) : Ctr prog 71 [sV x, bV b] [] (.tup [(whoOf x).2.pv, iV (whoM b x)]) [] [] := by
 have c1 := cParseWho16 x hx
 have hm : whoM b x = if b = false ∨ (whoOf x).1 = 2 then 0 else if (whoOf x).1 ≠ 0 then 1 else 2 := rfl
 generalize whoM b x = m at *
 generalize whoOf x = q at *
 obtain ⟨e, p⟩ := q
 dsimp only at *
 refine Ctr.enter tblOk func71 rfl (by decide) rfl (nt := 24) rfl rfl rfl rfl ?_
 refine Trip.sr tblOk ?_
 refine Trip.sR tblOk (by repeat' (first | exact rfl | (apply Rule.sem; intro hγ; with_reducible apply F_call0 (x := .func 116) (B := []) hγ (hspec := c1)) | ((with_reducible refine Side.mk ?_); exact .inl rfl) | constructor)) ?_
 refine Trip.seq (Trip.sR tblOk (by repeat' (first | exact rfl | ((with_reducible refine Side.mk ?_); first | exact fun h => h | exact fun _ h => congrArg Bool.not h) | constructor)) ?_)
 apply Trip.cond (.tmp rfl)
 ·intro h
  have h : b = false ∨ e = 2 := by simpa using h
  rw [if_pos h] at hm
  subst hm
  refine Trip.sr tblOk ?_
  refine Trip.ret (rt2 [])
 intro h
 have h : ¬ (b = false ∨ e = 2) := by
  have h : (!b || decide (e = 2)) = false := h
  intro h2
  rcases h2 with rfl | h2
  ·simp at h
  ·rw [decide_eq_true h2] at h; simp at h
 rw [if_neg h] at hm
 refine Trip.skip (Trip.seq (Trip.sr tblOk ?_))
 apply Trip.cond (.tmp rfl)
 ·intro h2
  have h2 : e ≠ 0 := by simpa using h2
  rw [if_pos h2] at hm
  subst hm
  refine Trip.sr tblOk ?_
  refine Trip.ret (rt2 [])
 intro h2
 have h2 : e = 0 := by simpa using h2
 rw [if_neg (by simp [h2])] at hm
 subst hm
 refine Trip.skip (Trip.sr tblOk ?_)
 refine Trip.ret (rt2 [])
end Go.Proofs.Tryz
namespace Go.Proofs.Tryz
open Go Go.Sym Go.Graft
set_option maxRecDepth 20000
theorem cComE16 (nl : Bool) (c : Com) (h1 : c.tree.length ≤ 1000000000) (h2 : c.pars.length ≤ 1000000000) (h3 : ∀ p ∈ c.pars, p.length ≤ 1000000000) (h4 : c.aut.name.length ≤ 1000000000 ∧ c.aut.mail.length ≤ 1000000000) (h5 : c.com.name.length ≤ 1000000000 ∧ c.com.mail.length ≤ 1000000000) (h6 : c.text.length ≤ 1000000000) : Ctr prog 72 [c.pv nl] [] (iV (comE c)) [] [] := by
 have k1 := cIs2 c.tree (by omega)
 have k3 := cPerson2 c.aut.name c.aut.mail c.aut.time c.aut.zone (by omega) (by omega)
 have k4 := cPerson2 c.com.name c.com.mail c.com.time c.com.zone (by omega) (by omega)
 have k5 := cZero c.text (by omega)
 have hb := comBad_eq c
 have hb2 : comBad2 c = (!isId c.tree || !perOk c.aut.name c.aut.mail c.aut.time c.aut.zone || !perOk c.com.name c.com.mail c.com.time c.com.zone || hasZ c.text) := rfl
 rw [comE]
 obtain ⟨tree, pars, ⟨an, am, at', az⟩, ⟨cn, cm, ct, cz⟩, text⟩ := c
 dsimp only at *
 generalize comBad ⟨tree, pars, ⟨an, am, at', az⟩, ⟨cn, cm, ct, cz⟩, text⟩ = cb at *
 generalize comBad2 ⟨tree, pars, ⟨an, am, at', az⟩, ⟨cn, cm, ct, cz⟩, text⟩ = cb2 at *
 generalize isId tree = b1 at *
 generalize perOk an am at' az = b3 at *
 generalize perOk cn cm ct cz = b4 at *
 generalize hasZ text = b5 at *
 refine Ctr.enter tblOk func72 rfl (by decide) rfl (nt := 79) rfl rfl rfl rfl ?_
 refine Trip.sr tblOk ?_
 refine Trip.rk ⟨[(1, .ref 1 0), (3, bV cb2)], [(1, .box [sV tree, .sl nl 1 (pars.map fun x => sV x), sV an, sV am, iV at', iV az, sV cn, sV cm, iV ct, iV cz, sV text])]⟩ tblOk (by repeat' (first | exact rfl | (apply Rule.sem; intro hγ; with_reducible apply F_call0 (x := .func 70) (B := []) hγ (hspec := k1)) | (apply Rule.sem; intro hγ; with_reducible apply F_call0 (dst := some 14) (x := .func 117) (B := []) hγ (hspec := k3)) | (apply Rule.sem; intro hγ; with_reducible apply F_call0 (dst := some 20) (x := .func 117) (B := []) hγ (hspec := k4)) | (apply Rule.sem; intro hγ; with_reducible apply F_call0 (x := .func 118) (B := []) hγ (hspec := k5)) | ((with_reducible refine Side.mk ?_); first | exact .inl rfl | exact fun h => h | exact fun _ h => congrArg Bool.not h) | constructor)) (Weak.kp (ht := by repeat' (first | exact rfl | exact vB hb2.symm | constructor))) ?_
 refine Trip.seq (Trip.sr tblOk ?_)
 refine Trip.block ?_
 refine Trip.loop (fun (i : Nat) => ⟨[(1, .ref 1 0), (3, bV (cb2 || (pars.take i).any fun p => !isId p)), (4, iV i)], [(1, .box [sV tree, .sl nl 1 (pars.map fun x => sV x), sV an, sV am, iV at', iV az, sV cn, sV cm, iV ct, iV cz, sV text])]⟩) (fun (i : Nat) => i ≤ pars.length) (fun (i : Nat) => pars.length - i) (0) (by first | omega | (simp; done)) (Weak.kp (ht := by repeat' (first | exact rfl | exact vB (by simp) | constructor))) ?_
 intro i hi
 refine Trip.seq (Trip.sr tblOk ?_)
 apply Trip.cond (.tmp rfl)
 ·intro h
  have h : i < pars.length := by simp at h; omega
  have k6 := cIs2 pars[i]! (by have := h3 _ (bang_mem h); omega)
  have ha := any_take (fun p => !isId p) pars i h
  generalize hn2 : ((pars.take (i + 1)).any fun p => !isId p) = n2 at *
  generalize ((pars.take i).any fun p => !isId p) = n1 at *
  try dsimp only at ha
  generalize isId pars[i]! = b6 at *
  refine Trip.skip (Trip.seq (Trip.block (Trip.R tblOk (by repeat' (first | exact rfl | (apply Rule.under tblOk; intro hγ; with_reducible apply Rule.indexAddr) | exact idx_map _ _ _ (by have h2 := hγ; simp only [gpick, cond_true, cond_false, decide_eq_true_eq, Bool.and_eq_true, Bool.or_eq_true, Bool.not_eq_true', Bool.not_eq_false', Bool.or_eq_false_iff, decide_eq_false_iff_not, List.length_map] at h2; show _ < _; omega) | (apply Rule.sem; intro hγ; with_reducible apply F_call0 (x := .func 70) (B := []) hγ (hspec := k6)) | ((with_reducible refine Side.mk ?_); first | exact .inl rfl | exact fun h => h | exact fun _ h => congrArg Bool.not h | (simp only [ln]; first | done | omega) | exact fun _ => hγ) | constructor)) ?_)))
  refine Trip.R tblOk (by repeat' (first | exact rfl | ((with_reducible refine Side.mk ?_); omega) | constructor)) ?_
  exact ⟨i + 1, by first | omega | (dsimp only at *; omega), by first | omega | (dsimp only at *; omega), Weak.kp (ht := by repeat' (first | exact rfl | (rw [hn2]; exact vB (by rw [ha]; exact Bool.or_assoc _ _ _)) | constructor))⟩
 intro h
 have h : i = pars.length := by simp at h; omega
 subst h
 rw [List.take_length, ← hb]
 refine Trip.exit (Trip.seq (Trip.sr tblOk ?_))
 apply Trip.cond (.tmp rfl)
 ·intro h
  have h : cb = true := h
  rw [if_pos h]
  refine Trip.sr tblOk ?_
  refine Trip.ret (rt1 [])
 intro h
 have h : cb = false := h
 rw [if_neg (by rw [h]; simp)]
 refine Trip.skip (Trip.seq (Trip.sR tblOk (by repeat' (first | exact rfl | ((with_reducible refine Side.mk ?_); first | exact fun h => h | exact fun _ h => congrArg Bool.not h) | constructor)) ?_))
 apply Trip.cond (.tmp rfl)
 ·intro h
  have h : (4096 : Int) < text.length ∨ (8 : Int) < pars.length := by simpa using h
  rw [if_pos h]
  refine Trip.sr tblOk ?_
  refine Trip.ret (rt1 [])
 intro h
 have h : ¬ ((4096 : Int) < text.length ∨ (8 : Int) < pars.length) := by simpa using h
 rw [if_neg h]
 refine Trip.skip (Trip.seq (Trip.sr tblOk ?_))
 refine Trip.block ?_
 refine Trip.loop (fun (i : Nat) => ⟨[(1, .ref 1 0), (5, iV i)], [(1, .box [sV tree, .sl nl 1 (pars.map fun x => sV x), sV an, sV am, iV at', iV az, sV cn, sV cm, iV ct, iV cz, sV text])]⟩) (fun (i : Nat) => i ≤ pars.length ∧ ∀ j, j < i → dupE pars j = 0) (fun (i : Nat) => pars.length - i) (0) (by exact ⟨Nat.zero_le _, fun j hj => absurd hj (by omega)⟩) Weak.kp ?_
 intro i hi
 obtain ⟨hi, hj⟩ := hi
 refine Trip.seq (Trip.sr tblOk ?_)
 apply Trip.cond (.tmp rfl)
 ·intro h
  have h : i < pars.length := by simp at h; omega
  have hst := fun (h0 : dupE pars i ≠ 0) => firstE_stop (n := pars.length) h hj h0
  refine Trip.skip (Trip.seq (Trip.block (Trip.sr tblOk ?_)))
  refine Trip.block ?_
  refine Trip.loop (fun (k : Nat) => ⟨[(1, .ref 1 0), (5, iV i), (6, iV k)], [(1, .box [sV tree, .sl nl 1 (pars.map fun x => sV x), sV an, sV am, iV at', iV az, sV cn, sV cm, iV ct, iV cz, sV text])]⟩) (fun (k : Nat) => k ≤ i ∧ ∀ j, j < k → pars[i]! ≠ pars[j]!) (fun (k : Nat) => i - k) (0) (by exact ⟨Nat.zero_le _, fun j hj => absurd hj (by omega)⟩) Weak.kp ?_
  intro k hk
  obtain ⟨hk, hkj⟩ := hk
  refine Trip.seq (Trip.sr tblOk ?_)
  apply Trip.cond (.tmp rfl)
  ·intro h7
   have h7 : k < i := by simp at h7; omega
   refine Trip.skip (Trip.seq (Trip.block (Trip.sD tblOk mixed (by repeat' (first | exact rfl | exact idx_map _ _ _ (by show _ < _; first | omega | (simp only [List.length_map] at *; omega)) | ((with_reducible refine Side.mk ?_); (simp only [ln]; first | done | omega)) | constructor)) ?_)))
   apply Trip.cond (.tmp rfl)
   ·intro h8
    have h8 : pars[i]! = pars[k]! := of_decide_eq_true h8
    have hd := dup_yes h h7 h8
    rw [hst (by omega), hd]
    refine Trip.sr tblOk ?_
    refine Trip.ret (rt1 [])
   intro h8
   have h8 : ¬ pars[i]! = pars[k]! := of_decide_eq_false h8
   refine Trip.skip (Trip.R tblOk (by repeat' (first | exact rfl | ((with_reducible refine Side.mk ?_); omega) | constructor)) ?_)
   exact ⟨k + 1, by exact ⟨by omega, fun j h9 => (Nat.lt_succ_iff_lt_or_eq.1 h9).elim (hkj j) (fun e => e ▸ h8)⟩, by first | omega | (dsimp only at *; omega), Weak.kp⟩
  intro h7
  have h7 : k = i := by simp at h7; omega
  subst h7
  have hd := dup_no h hkj
  refine Trip.exit (Trip.R tblOk (by repeat' (first | exact rfl | ((with_reducible refine Side.mk ?_); omega) | constructor)) ?_)
  exact ⟨k + 1, by exact ⟨by omega, fun j h9 => (Nat.lt_succ_iff_lt_or_eq.1 h9).elim (hj j) (fun e => e ▸ hd)⟩, by first | omega | (dsimp only at *; omega), Weak.kp⟩
 intro h
 have h : i = pars.length := by simp at h; omega
 subst h
 rw [firstE_zero hj]
 refine Trip.exit (Trip.sr tblOk ?_)
 refine Trip.ret (rt1 [])
theorem cTgE16 (t : Tg) (h1 : t.obj.length ≤ 1000000000) (h3 : t.name.length ≤ 1000000000) (h4 : t.by'.name.length ≤ 1000000000 ∧ t.by'.mail.length ≤ 1000000000) (h6 : t.text.length ≤ 1000000000) : Ctr prog 74 [t.pv] [] (iV (tgE t)) [] [] := by
 have k1 := cIs2 t.obj (by omega)
 have k4 := cPerson2 t.by'.name t.by'.mail t.by'.time t.by'.zone (by omega) (by omega)
 have k5 := cZero t.text (by omega)
 have hb := tgBad_eq t
 have hb2 : tgBad2 t = (!isId t.obj || decide (t.kind < 1) || decide (4 < t.kind) || decide ((t.name.length : Int) < 1) || decide (64 < (t.name.length : Int)) || !perOk t.by'.name t.by'.mail t.by'.time t.by'.zone || hasZ t.text) := rfl
 rw [tgE]
 obtain ⟨ob, kind, name, ⟨an, am, at', az⟩, text⟩ := t
 dsimp only at *
 generalize tgBad ⟨ob, kind, name, ⟨an, am, at', az⟩, text⟩ = cb at *
 generalize tgBad2 ⟨ob, kind, name, ⟨an, am, at', az⟩, text⟩ = cb2 at *
 generalize isId ob = b1 at *
 generalize perOk an am at' az = b3 at *
 generalize hasZ text = b5 at *
 refine Ctr.enter tblOk func74 rfl (by decide) rfl (nt := 62) rfl rfl rfl rfl ?_
 refine Trip.sr tblOk ?_
 refine Trip.rk ⟨[(1, .ref 1 0), (3, bV cb2)], [(1, .box [sV ob, iV kind, sV name, sV an, sV am, iV at', iV az, sV text])]⟩ tblOk (by repeat' (first | exact rfl | (apply Rule.sem; intro hγ; with_reducible apply F_call0 (x := .func 70) (B := []) hγ (hspec := k1)) | (apply Rule.sem; intro hγ; with_reducible apply F_call0 (x := .func 117) (B := []) hγ (hspec := k4)) | (apply Rule.sem; intro hγ; with_reducible apply F_call0 (x := .func 118) (B := []) hγ (hspec := k5)) | ((with_reducible refine Side.mk ?_); first | exact .inl rfl | exact fun h => h | exact fun _ h => congrArg Bool.not h) | constructor)) (Weak.kp (ht := by repeat' (first | exact rfl | exact vB hb2.symm | constructor))) ?_
 refine Trip.seq (Trip.sr tblOk ?_)
 refine Trip.block ?_
 refine Trip.loop (fun (i : Nat) => ⟨[(1, .ref 1 0), (3, bV (cb2 || tagN name i)), (4, iV i)], [(1, .box [sV ob, iV kind, sV name, sV an, sV am, iV at', iV az, sV text])]⟩) (fun (i : Nat) => i ≤ name.length) (fun (i : Nat) => name.length - i) (0) (by first | omega | (simp; done)) (Weak.kp (ht := by repeat' (first | exact rfl | exact vB (by simp [tagN]) | constructor))) ?_
 intro i hi
 refine Trip.seq (Trip.sr tblOk ?_)
 apply Trip.cond (.tmp rfl)
 ·intro h
  have h : i < name.length := by simp at h; omega
  have ha := tagN_succ name i h
  generalize hn2 : tagN name (i + 1) = n2 at *
  generalize tagN name i = n1 at *
  refine Trip.skip (Trip.seq (Trip.block (Trip.R tblOk (by repeat' (first | exact rfl | (apply Rule.under tblOk; intro hγ; with_reducible apply Rule.index) | ((with_reducible refine Side.mk ?_); first | omega | exact fun h => h | exact fun _ h => congrArg Bool.not h | exact fun _ => hγ) | constructor)) ?_)))
  refine Trip.R tblOk (by repeat' (first | exact rfl | ((with_reducible refine Side.mk ?_); omega) | constructor)) ?_
  exact ⟨i + 1, by first | omega | (dsimp only at *; omega), by first | omega | (dsimp only at *; omega), Weak.kp (ht := by repeat' (first | exact rfl | (rw [hn2]; exact vB (by rw [ha]; exact Bool.or_assoc _ _ _)) | constructor))⟩
 intro h
 have h : i = name.length := by simp at h; omega
 subst h
 rw [tagN_all, ← hb]
 refine Trip.exit (Trip.seq (Trip.sr tblOk ?_))
 apply Trip.cond (.tmp rfl)
 ·intro h
  have h : cb = true := h
  rw [if_pos h]
  refine Trip.sr tblOk ?_
  refine Trip.ret (rt1 [])
 intro h
 have h : cb = false := h
 rw [if_neg (by rw [h]; simp)]
 refine Trip.skip (Trip.seq (Trip.sr tblOk ?_))
 apply Trip.cond (.tmp rfl)
 ·intro h
  have h : (4096 : Int) < text.length := by simpa using h
  rw [if_pos h]
  refine Trip.sr tblOk ?_
  refine Trip.ret (rt1 [])
 intro h
 have h : ¬ (4096 : Int) < text.length := by simpa using h
 rw [if_neg h]
 refine Trip.skip (Trip.sr tblOk ?_)
 refine Trip.ret (rt1 [])
end Go.Proofs.Tryz
