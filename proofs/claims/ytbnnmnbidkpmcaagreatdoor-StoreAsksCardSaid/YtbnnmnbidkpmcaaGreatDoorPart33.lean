/- A part of the proof: GWho, Hl, GHof, GWhl. -/
import Derived.Test.YtbnnmnbidkpmcaaGreatDoorPart32
set_option linter.unusedVariables false
set_option linter.unusedSimpArgs false
namespace Go.Graft
open Go.Sym
theorem indexAny_none : ∀ {s chars : Str}, (∀ c ∈ s, chars.contains c = false) → Lib.indexAny s chars = -1
  | [], _, _ => rfl
  | b :: l, chars, h => by
    have h0 := h b (by simp)
    rw [Lib.indexAny, h0, indexAny_none fun c hc => h c (by simp [hc])]
    rfl
theorem angled_any (s : Str) : Lib.containsAny s [60, 62] = angled s := by
  induction s with
  | nil => rfl
  | cons b r ih =>
    have hge := Lib.indexAny_ge [60, 62] r
    simp only [Lib.containsAny, angled, List.any_cons] at ih ⊢
    rw [← ih, Lib.indexAny]
    by_cases h1 : b = 60
    · subst h1; simp
    · by_cases h2 : b = 62
      · subst h2; simp
      · have : ([60, 62] : Str).contains b = false := by simp [h1, h2]
        rw [this, decide_eq_false h1, decide_eq_false h2]
        simp only [Bool.false_eq_true, if_false, Bool.or_self, Bool.false_or]
        refine decide_eq_decide.2 ?_
        split
        · rename_i h; have := beq_iff_eq.1 h; omega
        · rename_i h; have : Lib.indexAny r [60, 62] ≠ -1 := by simpa using h
          omega
theorem angled_append (a b : Str) : angled (a ++ b) = (angled a || angled b) := by rw [angled, List.any_append]; rfl
theorem has_byte (s : Str) (c : UInt8) : decide (0 ≤ findS s [c] 0) = s.contains c := by
  rw [findS, List.drop_zero, index_one]
  have key : (0 ≤ Lib.indexByte s c) ↔ c ∈ s := by
    induction s with
    | nil => simp [Lib.indexByte]
    | cons b r ih =>
      have hge := Lib.indexByte_ge r c
      rw [Lib.indexByte]
      by_cases h : b = c
      · subst h; simp
      · have e : (b == c) = false := by simpa using h
        rw [e]
        simp only [Bool.false_eq_true, if_false, List.mem_cons]
        have hc : ¬ c = b := fun h' => h h'.symm
        split
        · rename_i h2; have := beq_iff_eq.1 h2
          constructor
          · intro h; omega
          · intro h; have := ih.2 (h.resolve_left hc); omega
        · rename_i h2
          have h2 : Lib.indexByte r c ≠ -1 := by simpa using h2
          constructor
          · intro h; exact .inr (ih.1 (by omega))
          · intro h; have := ih.2 (h.resolve_left hc); omega
  have e2 : (0 ≤ if Lib.indexByte s c < 0 then (-1 : Int) else ((0 : Nat) : Int) + Lib.indexByte s c) ↔ c ∈ s := by
    rw [← key]
    split <;> omega
  rw [Bool.eq_iff_iff, decide_eq_true_eq, List.contains_iff_mem]
  exact e2
theorem angled_has (s : Str) : angled s = (s.contains 60 || s.contains 62) := by
  rw [Bool.eq_iff_iff, angled, List.any_eq_true, Bool.or_eq_true, List.contains_iff_mem, List.contains_iff_mem]
  constructor
  · rintro ⟨x, hx, h⟩
    simp only [Bool.or_eq_true, decide_eq_true_eq] at h
    rcases h with rfl | rfl
    · exact .inl hx
    · exact .inr hx
  · rintro (h | h)
    · exact ⟨60, h, by simp⟩
    · exact ⟨62, h, by simp⟩
theorem cut_some {s t : Str} {k : Nat} (h : Lib.index s t = (k : Int)) : Lib.cut s t = (s.take k, s.drop (k + t.length), true) := by
  rw [Lib.cut, if_pos (by omega), h]; rfl
theorem cut_none {s t : Str} (h : Lib.index s t = -1) : Lib.cut s t = (s, [], false) := by rw [Lib.cut, if_neg (by omega)]
theorem index_skip (r : Str) : Lib.index (32 :: 60 :: r) [62, 32] = if Lib.index r [62, 32] = -1 then -1 else Lib.index r [62, 32] + 2 := by
  have hge := Lib.index_ge r [62, 32]
  have h2 : Lib.index (60 :: r) [62, 32] = if Lib.index r [62, 32] = -1 then -1 else Lib.index r [62, 32] + 1 := by
    rw [Lib.index]
    have : ([62, 32] : Str).isPrefixOf (60 :: r) = false := by simp [List.isPrefixOf]
    rw [this]
    simp only [beq_iff_eq, Bool.false_eq_true, if_false]
  rw [Lib.index]
  have : ([62, 32] : Str).isPrefixOf (32 :: 60 :: r) = false := by simp [List.isPrefixOf]
  rw [this, h2]
  simp only [beq_iff_eq, Bool.false_eq_true, if_false]
  split
  · rename_i h; rw [if_pos rfl]
  · rename_i h; rw [if_neg (by omega)]; omega
theorem occ_drop {s t : Str} {k : Nat} (h : Lib.index s t = (k : Int)) : (s.drop k).take t.length = t ∧ k + t.length ≤ s.length := by
  have hr := Lib.index_room s t (by omega)
  rcases Lib.index_spec s t with ⟨h1, _⟩ | ⟨i, h1, _, h3, _⟩
  · omega
  · have : i = k := by omega
    subst this
    rw [Lib.occAt_iff_take _ _ _ (by omega)] at h3
    exact ⟨by simpa using h3, by omega⟩
structure Offs (s : Str) (a b c : Nat) : Prop where
  ab : a + 2 ≤ b
  bc : b + 2 ≤ c
  cl : c + 1 ≤ s.length
  n1 : (Lib.cut s [32, 60]).1 = s.take a
  n2 : (Lib.cut (Lib.cut s [32, 60]).2.1 [62, 32]).1 = (s.take b).drop (a + 2)
  n3 : (Lib.cut (Lib.cut (Lib.cut s [32, 60]).2.1 [62, 32]).2.1 [32]).1 = (s.take c).drop (b + 2)
  n4 : (Lib.cut (Lib.cut (Lib.cut s [32, 60]).2.1 [62, 32]).2.1 [32]).2.1 = s.drop (c + 1)
  t1 : (Lib.cut s [32, 60]).2.2 = true
  t2 : (Lib.cut (Lib.cut s [32, 60]).2.1 [62, 32]).2.2 = true
  t3 : (Lib.cut (Lib.cut (Lib.cut s [32, 60]).2.1 [62, 32]).2.1 [32]).2.2 = true
theorem who_none {s : Str} (h : ((Lib.cut s [32, 60]).2.2 && (Lib.cut (Lib.cut s [32, 60]).2.1 [62, 32]).2.2 && (Lib.cut (Lib.cut (Lib.cut s [32, 60]).2.1 [62, 32]).2.1 [32]).2.2) = false) : whoOf s = (2, zeroPer) := by
  rw [whoOf, if_pos]
  rw [h]; rfl
theorem find_a {s : Str} (h : findS s [32, 60] 0 < 0) : whoOf s = (2, zeroPer) := by
  rcases findS_cases s [32, 60] 0 with ⟨_, h2⟩ | ⟨i, h2, _⟩
  · rw [List.drop_zero] at h2
    exact who_none (by rw [cut_none h2]; rfl)
  · omega
theorem find_a_some {s : Str} (h : ¬ findS s [32, 60] 0 < 0) : ∃ a : Nat, findS s [32, 60] 0 = (a : Int) ∧ a + 2 ≤ s.length ∧ Lib.cut s [32, 60] = (s.take a, s.drop (a + 2), true) ∧ s.drop a = 32 :: 60 :: s.drop (a + 2) := by
  rcases findS_cases s [32, 60] 0 with ⟨h1, _⟩ | ⟨i, h2, _, h4, h5⟩
  · omega
  · rw [List.drop_zero] at h4
    have h4 : Lib.index s [32, 60] = (i : Int) := h4
    obtain ⟨g1, g2⟩ := occ_drop h4
    have g2 : i + 2 ≤ s.length := g2
    refine ⟨i, h2, g2, cut_some h4, ?_⟩
    have : s.drop i = (s.drop i).take 2 ++ (s.drop i).drop 2 := (List.take_append_drop 2 _).symm
    rw [this, List.drop_drop]
    have g1 : (s.drop i).take 2 = [32, 60] := g1
    rw [g1]; rfl
theorem find_b {s : Str} {a : Nat} (hc : Lib.cut s [32, 60] = (s.take a, s.drop (a + 2), true)) (hd : s.drop a = 32 :: 60 :: s.drop (a + 2)) (h : findS s [62, 32] a < 0) : whoOf s = (2, zeroPer) := by
  refine who_none ?_
  have h1 : Lib.index (s.drop (a + 2)) [62, 32] = -1 := by
    have hge := Lib.index_ge (s.drop (a + 2)) [62, 32]
    rw [findS, hd, index_skip] at h
    split at h
    · rename_i h2; exact h2
    · rename_i h2; rw [if_neg (by omega)] at h; omega
  rw [hc]
  simp only []
  rw [cut_none h1]; rfl
theorem find_b_some {s : Str} {a : Nat} (ha : a + 2 ≤ s.length) (hc : Lib.cut s [32, 60] = (s.take a, s.drop (a + 2), true)) (hd : s.drop a = 32 :: 60 :: s.drop (a + 2)) (h : ¬ findS s [62, 32] a < 0) : ∃ b : Nat, findS s [62, 32] a = (b : Int) ∧ a + 2 ≤ b ∧ b + 2 ≤ s.length ∧ Lib.cut (s.drop (a + 2)) [62, 32] = ((s.take b).drop (a + 2), s.drop (b + 2), true) := by
  have hge := Lib.index_ge (s.drop (a + 2)) [62, 32]
  have hix : Lib.index (s.drop (a + 2)) [62, 32] ≠ -1 ∧ findS s [62, 32] a = a + 2 + Lib.index (s.drop (a + 2)) [62, 32] := by
    rw [findS, hd, index_skip] at h ⊢
    by_cases h2 : Lib.index (s.drop (a + 2)) [62, 32] = -1
    · rw [if_pos h2] at h; simp at h
    · rw [if_neg h2, if_neg (by omega)]
      exact ⟨h2, by omega⟩
  obtain ⟨k, hk⟩ : ∃ k : Nat, Lib.index (s.drop (a + 2)) [62, 32] = (k : Int) := ⟨(Lib.index (s.drop (a + 2)) [62, 32]).toNat, by omega⟩
  obtain ⟨_, g2⟩ := occ_drop hk
  have g2 : k + 2 ≤ (s.drop (a + 2)).length := g2
  rw [List.length_drop] at g2
  refine ⟨a + 2 + k, by rw [hix.2, hk]; omega, by omega, by omega, ?_⟩
  rw [cut_some hk]
  refine Prod.ext ?_ (Prod.ext ?_ rfl)
  · show (s.drop (a + 2)).take k = (s.take (a + 2 + k)).drop (a + 2)
    rw [List.drop_take, Nat.add_sub_cancel_left]
  · show (s.drop (a + 2)).drop (k + 2) = s.drop (a + 2 + k + 2)
    rw [List.drop_drop, show a + 2 + (k + 2) = a + 2 + k + 2 by omega]
theorem find_c {s : Str} {a b : Nat} (hc : Lib.cut s [32, 60] = (s.take a, s.drop (a + 2), true)) (hc2 : Lib.cut (s.drop (a + 2)) [62, 32] = ((s.take b).drop (a + 2), s.drop (b + 2), true)) (h : findS s [32] (b + 2) < 0) : whoOf s = (2, zeroPer) := by
  refine who_none ?_
  rcases findS_cases s [32] (b + 2) with ⟨_, h2⟩ | ⟨i, h2, _⟩
  · rw [hc]
    simp only []
    rw [hc2]
    simp only []
    rw [cut_none h2]; rfl
  · omega
theorem find_c_some {s : Str} {a b : Nat} (hab : a + 2 ≤ b) (hb : b + 2 ≤ s.length) (hc : Lib.cut s [32, 60] = (s.take a, s.drop (a + 2), true)) (hc2 : Lib.cut (s.drop (a + 2)) [62, 32] = ((s.take b).drop (a + 2), s.drop (b + 2), true)) (h : ¬ findS s [32] (b + 2) < 0) : ∃ c : Nat, findS s [32] (b + 2) = (c : Int) ∧ Offs s a b c := by
  rcases findS_cases s [32] (b + 2) with ⟨h1, _⟩ | ⟨c, h2, h3, h4, h5⟩
  · omega
  · have h5 := h5 hb
    have hc3 := cut_some h4
    have e1 : (s.drop (b + 2)).take (c - (b + 2)) = (s.take c).drop (b + 2) := by rw [List.drop_take]
    have e2 : (s.drop (b + 2)).drop (c - (b + 2) + 1) = s.drop (c + 1) := by rw [List.drop_drop, show b + 2 + (c - (b + 2) + 1) = c + 1 by omega]
    have hc3 : Lib.cut (s.drop (b + 2)) [32] = ((s.take c).drop (b + 2), s.drop (c + 1), true) := by rw [hc3]; exact Prod.ext e1 (Prod.ext e2 rfl)
    refine ⟨c, h2, ⟨hab, h3, h5, by rw [hc], ?_, ?_, ?_, by rw [hc], ?_, ?_⟩⟩ <;> rw [hc] <;> simp only [] <;> rw [hc2] <;> simp only [] <;> rw [hc3]
theorem Offs.who {s : Str} {a b c : Nat} (h : Offs s a b c) : whoOf s = if (!zonOk (s.drop (c + 1)) || !numOk ((s.take c).drop (b + 2)) || (s.take a).contains 60 || (s.take a).contains 62 || ((s.take b).drop (a + 2)).contains 60 || ((s.take b).drop (a + 2)).contains 62) = true then (2, zeroPer) else if perOk (s.take a) ((s.take b).drop (a + 2)) (valD ((s.take c).drop (b + 2))) (zonV (s.drop (c + 1))) = false then (1, zeroPer) else (0, ⟨s.take a, (s.take b).drop (a + 2), valD ((s.take c).drop (b + 2)), zonV (s.drop (c + 1))⟩) := by
  rw [whoOf, h.n1, h.n2, h.n3, h.n4, h.t1, h.t2, h.t3, angled_append, angled_has, angled_has]
  generalize zonOk (s.drop (c + 1)) = b1
  generalize numOk ((s.take c).drop (b + 2)) = b2
  generalize (s.take a).contains 60 = b3
  generalize (s.take a).contains 62 = b4
  generalize ((s.take b).drop (a + 2)).contains 60 = b5
  generalize ((s.take b).drop (a + 2)).contains 62 = b6
  cases b1 <;> cases b2 <;> cases b3 <;> cases b4 <;> cases b5 <;> cases b6 <;> rfl
theorem whoOf_def (s : Str) : whoOf s = (
  if ((Lib.cut s [32, 60]).2.2 && (Lib.cut (Lib.cut s [32, 60]).2.1 [62, 32]).2.2 && (Lib.cut (Lib.cut (Lib.cut s [32, 60]).2.1 [62, 32]).2.1 [32]).2.2 && numOk (Lib.cut (Lib.cut (Lib.cut s [32, 60]).2.1 [62, 32]).2.1 [32]).1 && zonOk (Lib.cut (Lib.cut (Lib.cut s [32, 60]).2.1 [62, 32]).2.1 [32]).2.1 && !angled ((Lib.cut s [32, 60]).1 ++ (Lib.cut (Lib.cut s [32, 60]).2.1 [62, 32]).1)) = false then (2, zeroPer)
  else if perOk (Lib.cut s [32, 60]).1 (Lib.cut (Lib.cut s [32, 60]).2.1 [62, 32]).1 (valD (Lib.cut (Lib.cut (Lib.cut s [32, 60]).2.1 [62, 32]).2.1 [32]).1) (zonV (Lib.cut (Lib.cut (Lib.cut s [32, 60]).2.1 [62, 32]).2.1 [32]).2.1) = false then (1, zeroPer)
  else (0, ⟨(Lib.cut s [32, 60]).1, (Lib.cut (Lib.cut s [32, 60]).2.1 [62, 32]).1, valD (Lib.cut (Lib.cut (Lib.cut s [32, 60]).2.1 [62, 32]).2.1 [32]).1, zonV (Lib.cut (Lib.cut (Lib.cut s [32, 60]).2.1 [62, 32]).2.1 [32]).2.1⟩)) := rfl
end Go.Graft
namespace Go.Proofs.Tryz
open Go Go.Sym Go.Graft
set_option maxRecDepth 20000
set_option maxHeartbeats 1000000 in
theorem cParseWho16 (s : Str) (hs : s.length ≤ 1000000000) : Ctr prog 135 [sV s] [] (.tup [(whoOf s).2.pv, iV (whoOf s).1]) [] [] := by
  have c1 := cFind16 s [32, 60] 0 (by omega) (by simp) (by simp) (by omega)
  have ha0 := find_a (s := s)
  have ha1 := find_a_some (s := s)
  refine Ctr.enter tblOk func135 rfl (by decide) rfl (nt := 95) rfl rfl rfl rfl ?_
  refine Trip.seq ?_
  apply Trip.reg tblOk
  · repeat' (first | exact rfl | constructor)
  · exact rfl
  refine Trip.seq ?_
  apply Trip.reg tblOk
  · repeat' (first | exact rfl | (apply Rule.sem; intro hγ; with_reducible apply F_call0 (x := .func 133) (B := []) hγ (hspec := c1)) | ((with_reducible refine Side.mk ?_); exact .inl rfl) | constructor)
  · exact rfl
  refine Trip.seq ?_
  refine Trip.seq ?_
  apply Trip.reg tblOk
  · repeat' (first | exact rfl | constructor)
  · exact rfl
  apply Trip.cond (.tmp rfl)
  · intro h
    have h : findS s [32, 60] 0 < 0 := of_decide_eq_true h
    rw [ha0 h]
    refine Trip.seq ?_
    apply Trip.reg tblOk
    · repeat' (first | exact rfl | constructor)
    · exact rfl
    refine Trip.ret ?_
    apply Ret2 []
    · repeat' (first | exact rfl | constructor)
    · exact rfl
    · repeat' constructor
    · repeat' constructor
  intro h
  have h : ¬ findS s [32, 60] 0 < 0 := of_decide_eq_false h
  obtain ⟨a, e1, g1, g2, g3⟩ := ha1 h
  rw [e1] at *
  have c2 := cFind16 s [62, 32] a (by omega) (by simp) (by simp) (by omega)
  refine Trip.skip ?_
  refine Trip.seq ?_
  apply Trip.reg tblOk
  · repeat' (first | exact rfl | (apply Rule.sem; intro hγ; with_reducible apply F_call0 (x := .func 133) (B := []) hγ (hspec := c2)) | ((with_reducible refine Side.mk ?_); exact .inl rfl) | constructor)
  · exact rfl
  refine Trip.seq ?_
  refine Trip.seq ?_
  apply Trip.reg tblOk
  · repeat' (first | exact rfl | constructor)
  · exact rfl
  apply Trip.cond (.tmp rfl)
  · intro h
    have h : findS s [62, 32] a < 0 := of_decide_eq_true h
    rw [find_b g2 g3 h]
    refine Trip.seq ?_
    apply Trip.reg tblOk
    · repeat' (first | exact rfl | constructor)
    · exact rfl
    refine Trip.ret ?_
    apply Ret2 []
    · repeat' (first | exact rfl | constructor)
    · exact rfl
    · repeat' constructor
    · repeat' constructor
  intro h
  have h : ¬ findS s [62, 32] a < 0 := of_decide_eq_false h
  obtain ⟨b, e2, k1, k2, k3⟩ := find_b_some g1 g2 g3 h
  rw [e2] at *
  have c3 := cFind16 s [32] (b + 2) (by omega) (by simp) (by simp) (by omega)
  refine Trip.skip ?_
  refine Trip.seq ?_
  apply Trip.reg tblOk
  · repeat' (first | exact rfl | (apply Rule.sem; intro hγ; with_reducible apply F_call0 (x := .func 133) (B := []) hγ (hspec := c3)) | ((with_reducible refine Side.mk ?_); first | omega | exact .inl rfl) | constructor)
  · exact rfl
  refine Trip.seq ?_
  refine Trip.seq ?_
  apply Trip.reg tblOk
  · repeat' (first | exact rfl | constructor)
  · exact rfl
  apply Trip.cond (.tmp rfl)
  · intro h
    have h : findS s [32] (b + 2) < 0 := of_decide_eq_true h
    rw [find_c g2 k3 h]
    refine Trip.seq ?_
    apply Trip.reg tblOk
    · repeat' (first | exact rfl | constructor)
    · exact rfl
    refine Trip.ret ?_
    apply Ret2 []
    · repeat' (first | exact rfl | constructor)
    · exact rfl
    · repeat' constructor
    · repeat' constructor
  intro h
  have h : ¬ findS s [32] (b + 2) < 0 := of_decide_eq_false h
  obtain ⟨c, e3, o⟩ := find_c_some k1 k2 g2 k3 h
  rw [e3] at *
  have hw := o.who
  have o1 : b + 2 ≤ c := o.bc
  have o2 : c + 1 ≤ s.length := o.cl
  have f1 := cZone16 (s.drop (c + 1)) (by rw [List.length_drop]; omega)
  have f2 := cDigits16 ((s.take c).drop (b + 2)) (by rw [List.length_drop, List.length_take]; omega)
  have f3 := cFind16 (s.take a) [60] 0 (by rw [List.length_take]; omega) (by simp) (by simp) (by omega)
  have f4 := cFind16 (s.take a) [62] 0 (by rw [List.length_take]; omega) (by simp) (by simp) (by omega)
  have f5 := cFind16 ((s.take b).drop (a + 2)) [60] 0 (by rw [List.length_drop, List.length_take]; omega) (by simp) (by simp) (by omega)
  have f6 := cFind16 ((s.take b).drop (a + 2)) [62] 0 (by rw [List.length_drop, List.length_take]; omega) (by simp) (by simp) (by omega)
  have f7 := fun (h : numOk ((s.take c).drop (b + 2)) = true) => cValue16 ((s.take c).drop (b + 2)) (numOk_len h).2 (numOk_all h)
  have hnl : (s.take a).length ≤ 1000000000 ∧ ((s.take b).drop (a + 2)).length ≤ 1000000000 := ⟨by rw [List.length_take]; omega, by rw [List.length_drop, List.length_take]; omega⟩
  simp only [← has_byte] at hw
  refine Trip.skip ?_
  have d1 : (s.take s.length).drop (c + 1) = s.drop (c + 1) := by rw [List.take_length]
  apply Trip.drwk ⟨[(0, sV s), (2, .ref 2 0), (4, iV a), (5, iV b), (6, iV c), (7, .ref 7 0)], [(2, .box [sV [], sV [], iV 0, iV 0]), (7, .box [sV (s.take a), sV ((s.take b).drop (a + 2)), iV 0, iV 0])]⟩ tblOk mixed
  · repeat' (first | exact rfl | ((first | with_reducible refine bok ?_ | with_reducible refine bokR ?_ | with_reducible refine Side.mk ?_); omega) | constructor)
  · exact rfl
  · kernel_rfl
  · apply Weak.keep
    · exact rfl
    · repeat' (first | exact rfl | constructor)
    · repeat' (first | exact rfl | constructor)
    · exact rfl
    · repeat' (first | exact rfl | constructor)
  rw [← d1] at f1 hw
  generalize zonOk ((s.take s.length).drop (c + 1)) = z1 at *
  generalize zonV ((s.take s.length).drop (c + 1)) = z2 at *
  apply Trip.regk ⟨[(0, sV s), (2, .ref 2 0), (4, iV a), (5, iV b), (6, iV c), (7, .ref 7 0), (8, iV z2), (9, bV z1)], [(2, .box [sV [], sV [], iV 0, iV 0]), (7, .box [sV (s.take a), sV ((s.take b).drop (a + 2)), iV 0, iV 0])]⟩ tblOk
  · repeat' (first | exact rfl | (apply Rule.sem; intro hγ; with_reducible apply F_call0 (x := .func 163) (B := []) hγ (hspec := f1)) | ((first | with_reducible refine bokL ?_ | with_reducible refine Side.mk ?_); first | omega | exact .inl rfl) | constructor)
  · exact rfl
  · apply Weak.keep
    · exact rfl
    · repeat' (first | exact rfl | constructor)
    · repeat' (first | exact rfl | constructor)
    · exact rfl
    · repeat' (first | exact rfl | constructor)
  generalize ((s.take a).contains 60) = p1 at *
  generalize hnm : s.take a = nm at *
  generalize hml : (s.take b).drop (a + 2) = ml at *
  have htm : (s.take c).drop (b + 2) = (s.take c).drop (b + 2) := rfl
  generalize hnk : numOk ((s.take c).drop (b + 2)) = nk at *
  generalize hvd : ((valD ((s.take c).drop (b + 2)) : Nat) : Int) = vd at *
  refine Trip.seq ?_
  refine Trip.seq ?_
  apply Trip.reg tblOk
  · repeat' (first | exact rfl | (apply Rule.sem; intro hγ; with_reducible apply F_call0 (x := .func 164) (B := []) hγ (hspec := f2)) | (apply Rule.sem; intro hγ; with_reducible apply F_call0 (dst := some 59) (x := .func 133) (B := []) hγ (hspec := f3)) | (apply Rule.sem; intro hγ; with_reducible apply F_call0 (dst := some 65) (x := .func 133) (B := []) hγ (hspec := f4)) | (apply Rule.sem; intro hγ; with_reducible apply F_call0 (dst := some 71) (x := .func 133) (B := []) hγ (hspec := f5)) | (apply Rule.sem; intro hγ; with_reducible apply F_call0 (dst := some 77) (x := .func 133) (B := []) hγ (hspec := f6)) | ((first | with_reducible refine bok ?_ | with_reducible refine Side.mk ?_); first | omega | exact .inl rfl | exact fun h => h | exact fun _ h => congrArg Bool.not h) | constructor)
  · exact rfl
  apply Trip.cond (.tmp rfl)
  · intro h
    have h := of_decide_eq_true (decide_eq_true h)
    have h : (!z1 || !nk || decide (0 ≤ findS nm [60] 0) || decide (0 ≤ findS nm [62] 0) || decide (0 ≤ findS ml [60] 0) || decide (0 ≤ findS ml [62] 0)) = true := h
    rw [if_pos h] at hw
    rw [hw]
    refine Trip.seq ?_
    apply Trip.reg tblOk
    · repeat' (first | exact rfl | constructor)
    · exact rfl
    refine Trip.ret ?_
    apply Ret2 []
    · repeat' (first | exact rfl | constructor)
    · exact rfl
    · repeat' constructor
    · repeat' constructor
  intro h
  have h : (!z1 || !nk || decide (0 ≤ findS nm [60] 0) || decide (0 ≤ findS nm [62] 0) || decide (0 ≤ findS ml [60] 0) || decide (0 ≤ findS ml [62] 0)) = false := h
  have hnkt : nk = true := by
    cases nk with
    | true => rfl
    | false => cases z1 <;> simp at h
  rw [if_neg (by rw [h]; simp)] at hw
  have f7 := f7 hnkt
  have f8 := cPerson2 nm ml vd z2 (by omega) (by omega)
  generalize hpo : perOk nm ml vd z2 = po at *
  refine Trip.skip ?_
  refine Trip.seq ?_
  apply Trip.reg tblOk
  · repeat' (first | exact rfl | (apply Rule.sem; intro hγ; with_reducible apply F_call0 (x := .func 165) (B := []) hγ (hspec := f7)) | ((first | with_reducible refine bok ?_ | with_reducible refine Side.mk ?_); first | omega | exact .inl rfl) | constructor)
  · exact rfl
  refine Trip.seq ?_
  apply Trip.reg tblOk
  · repeat' (first | exact rfl | constructor)
  · exact rfl
  refine Trip.seq ?_
  refine Trip.seq ?_
  apply Trip.reg tblOk
  · repeat' (first | exact rfl | (apply Rule.sem; intro hγ; with_reducible apply F_call0 (x := .func 104) (B := []) hγ (hspec := f8)) | ((with_reducible refine Side.mk ?_); exact .inl rfl) | constructor)
  · exact rfl
  apply Trip.cond (.tmp rfl)
  · intro h2
    have h2 : po = false := by simpa using h2
    rw [if_pos h2] at hw
    rw [hw]
    refine Trip.seq ?_
    apply Trip.reg tblOk
    · repeat' (first | exact rfl | constructor)
    · exact rfl
    refine Trip.ret ?_
    apply Ret2 []
    · repeat' (first | exact rfl | constructor)
    · exact rfl
    · repeat' constructor
    · repeat' constructor
  intro h2
  have h2 : po = true := by simpa using h2
  rw [if_neg (by rw [h2]; simp)] at hw
  rw [hw]
  refine Trip.skip ?_
  refine Trip.seq ?_
  apply Trip.reg tblOk
  · repeat' (first | exact rfl | constructor)
  · exact rfl
  refine Trip.ret ?_
  apply Ret2 []
  · repeat' (first | exact rfl | constructor)
  · exact rfl
  · repeat' constructor
  · repeat' constructor
end Go.Proofs.Tryz
namespace Go.Graft
open Go.Sym
def idxP {α : Type} (q : α → Bool) (l : List α) : Int := match l.findIdx? q with | some i => (i : Int) | none => -1
theorem idxP_some {α : Type} [Inhabited α] {q : α → Bool} {l : List α} {i : Nat} (h : i < l.length) (hj : ∀ j, j < i → q l[j]! = false) (hi : q l[i]! = true) : idxP q l = (i : Int) := by
  have : l.findIdx? q = some i := by
    rw [List.findIdx?_eq_some_iff_getElem]
    refine ⟨h, by rw [getElem!_pos l i h] at hi; exact hi, fun j hji => ?_⟩
    have := hj j hji
    rw [getElem!_pos l j (by omega)] at this
    simp [this]
  rw [idxP, this]
theorem idxP_none {α : Type} [Inhabited α] {q : α → Bool} {l : List α} (hj : ∀ j, j < l.length → q l[j]! = false) : idxP q l = -1 := by
  have : l.findIdx? q = none := by
    rw [List.findIdx?_eq_none_iff]
    intro x hx
    obtain ⟨i, hi, rfl⟩ := List.getElem_of_mem hx
    have := hj i hi
    rwa [getElem!_pos l i hi] at this
  rw [idxP, this]
theorem idxP_any {α : Type} (q : α → Bool) (l : List α) : decide (0 ≤ idxP q l) = l.any q := by
  rw [idxP]
  cases h : l.findIdx? q with
  | none =>
    rw [List.findIdx?_eq_none_iff] at h
    have : l.any q = false := by rw [List.any_eq_false]; intro x hx; simp [h x hx]
    rw [this]; rfl
  | some i =>
    have : l.any q = true := by
      rw [List.findIdx?_eq_some_iff_getElem] at h
      obtain ⟨h1, h2, _⟩ := h
      rw [List.any_eq_true]
      exact ⟨_, List.getElem_mem h1, h2⟩
    rw [this]
    exact decide_eq_true (show (0 : Int) ≤ (i : Int) by omega)
theorem any_hasS (l : List Str) (x : Str) : (l.any fun y => decide (x = y)) = hasS l x := by
  rw [Bool.eq_iff_iff, List.any_eq_true, hasS, decide_eq_true_eq]
  constructor
  · rintro ⟨y, hy, h⟩
    have : x = y := of_decide_eq_true h
    rw [this]; exact hy
  · intro h; exact ⟨x, h, decide_eq_true rfl⟩
theorem contains_hasZ (s : Str) : Lib.contains s [0] = hasZ s := by
  induction s with
  | nil => rfl
  | cons b r ih =>
    have hge := Lib.index_ge r [0]
    have hz : hasZ (b :: r) = (zC b || hasZ r) := by simp [hasZ]
    rw [hz, ← ih, Lib.contains, Lib.contains, Go.Graft.index_one_cons]
    by_cases h : b = 0
    · subst h
      have : zC 0 = true := by decide
      rw [this]; simp
    · have : zC b = false := by
        rw [zC, decide_eq_false_iff_not]
        intro h2
        exact h (UInt8.toNat.inj (by
          have : b.toNat = 0 := by omega
          rw [this]; rfl))
      rw [this, if_neg h, Bool.false_or]
      refine decide_eq_decide.2 ?_
      split <;> omega
def seenN (l : List Str) : Nat → List Str × List Bool
  | 0 => ([], [])
  | i + 1 => (mkeys (seenN l i).1 l[i]!, mset (seenN l i).1 (seenN l i).2 l[i]! true)
theorem seenN_len (l : List Str) : ∀ i, (seenN l i).1.length = (seenN l i).2.length
  | 0 => rfl
  | i + 1 => mkeys_length _ _ _ _ (seenN_len l i)
theorem seenN_val (l : List Str) (y : Str) : ∀ i, i ≤ l.length → mval (seenN l i).1 (seenN l i).2 false y = hasS (l.take i) y
  | 0, _ => by simp [seenN, mval, kidx, hasS]
  | i + 1, h => by
    have ih := seenN_val l y i (by omega)
    rw [seenN]
    simp only []
    rw [mval_mset _ _ _ _ _ _ (seenN_len l i), take_snoc l i (by omega), ih]
    by_cases e : l[i]! = y
    · rw [if_pos e, e]; simp [hasS]
    · rw [if_neg e, hasS, hasS]
      refine decide_eq_decide.2 ?_
      rw [List.mem_append, List.mem_singleton]
      exact ⟨.inl, fun h => h.resolve_right fun h => e h.symm⟩
theorem tagged_no {s : Str} {i : Nat} (h : i < s.length) (hp : decide (((s.getD i 0).toNat : Int) ≤ 32) = true) : tagged s = false := by
  have : tagBad s = true := by
    rw [tagBad, List.any_eq_true]
    refine ⟨s[i], List.getElem_mem h, ?_⟩
    rw [List.getD_eq_getElem?_getD, List.getElem?_eq_getElem h] at hp
    exact hp
  rw [tagged, this]; rfl
theorem tagged_yes {s : Str} (h : ∀ i, i < s.length → decide (((s.getD i 0).toNat : Int) ≤ 32) = false) : tagged s = (decide ((1 : Int) ≤ s.length) && decide ((s.length : Int) ≤ 64)) := by
  have : tagBad s = false := by
    rw [tagBad, List.any_eq_false]
    intro x hx
    obtain ⟨i, hi, rfl⟩ := List.getElem_of_mem hx
    have := h i hi
    rw [List.getD_eq_getElem?_getD, List.getElem?_eq_getElem hi] at this
    simpa using this
  rw [tagged, this]; rfl
def Pars (s1 : Str) (e1 : Int) (x : Str × Int × List Str) : Prop :=
  (∃ f, x.1.length < f ∧ parsP f x.1 x.2.1 x.2.2 = parsOf s1 e1) ∧ x.2.2.length + (if x.2.1 = 0 then x.1.length else 0) ≤ s1.length + 1 ∧ x.1.length ≤ s1.length ∧ ∀ p ∈ x.2.2, p.length ≤ s1.length
theorem pars_zero (s1 : Str) (e1 : Int) : Pars s1 e1 (s1, e1, []) := ⟨⟨s1.length + 1, by simp, rfl⟩, by simp only [List.length_nil]; split <;> omega, Nat.le_refl _, by simp⟩
def parsM (x : Str × Int × List Str) : Nat := if x.2.1 = 0 then x.1.length + 1 else 0
theorem pars_next {s1 : Str} {e1 : Int} {t : Str} {l : List Str} (h : Pars s1 e1 (t, 0, l)) (hp : Lib.hasPrefix t kPar = true) : Pars s1 e1 (lineR t kPar, rdId t 0 kPar, l ++ [lineV t kPar]) ∧ parsM (lineR t kPar, rdId t 0 kPar, l ++ [lineV t kPar]) < parsM (t, 0, l) := by
  obtain ⟨⟨f, h1, h2⟩, h3, h4, h5⟩ := h
  have hl := prefix_len hp
  have hk : kPar.length = 7 := rfl
  have hR := lineR_le t kPar
  have hV := lineV_le t kPar
  simp only [if_true] at h3
  have hshort : rdId t 0 kPar = 0 → (lineR t kPar).length < t.length := fun h => by
    rw [rdId_zero] at h
    split at h
    · rename_i hh; simp only [Bool.and_eq_true] at hh; exact lineR_short t kPar hh.1
    · omega
  refine ⟨⟨?_, ?_, by simp only at h4 ⊢; omega, fun p hp2 => ?_⟩, ?_⟩
  · cases f with
    | zero => omega
    | succ f =>
      rw [parsP, if_pos ⟨rfl, hp⟩] at h2
      by_cases he : rdId t 0 kPar = 0
      · have := hshort he
        exact ⟨f, by simp only at h1 ⊢; omega, h2⟩
      · refine ⟨(lineR t kPar).length + 1, by simp, ?_⟩
        rw [← h2]
        have key : ∀ g, parsP g (lineR t kPar) (rdId t 0 kPar) (l ++ [lineV t kPar]) = (lineR t kPar, rdId t 0 kPar, l ++ [lineV t kPar]) := fun g => by
          cases g with
          | zero => rfl
          | succ g => rw [parsP, if_neg (fun h => he h.1)]
        rw [key, key]
  · simp only [List.length_append, List.length_singleton] at h3 h4 ⊢
    split
    · rename_i he; have := hshort he; omega
    · omega
  · rcases List.mem_append.1 hp2 with hp2 | hp2
    · exact h5 p hp2
    · rw [List.mem_singleton.1 hp2]; simp only at h4; omega
  · rw [parsM, parsM]
    simp only [if_true]
    split
    · rename_i he; have := hshort he; omega
    · omega
theorem pars_end {s1 : Str} {e1 : Int} {t : Str} {e : Int} {l : List Str} (h : Pars s1 e1 (t, e, l)) (hp : ¬ (e = 0 ∧ Lib.hasPrefix t kPar = true)) : parsOf s1 e1 = (t, e, l) := by
  obtain ⟨⟨f, h1, h2⟩, _⟩ := h
  cases f with
  | zero => omega
  | succ f => rw [← h2, parsP, if_neg hp]
theorem comP_def (s : Str) (s2 : Str) (e2 : Int) (l : List Str) (hq : parsOf (lineR s kTree) (rdId s 0 kTree) = (s2, e2, l)) : comP s =
    (let x := lineV s2 kAut
     let s3 := lineR s2 kAut
     let e3 := rdWho s2 e2 kAut
     let y := lineV s3 kCom
     let s4 := lineR s3 kCom
     let e4 := rdWho s3 e3 kCom
     let e5 := if lineV s4 [] = [] then lnE s4 [] e4 else failE (lnE s4 [] e4) 2
     let c : Com := ⟨lineV s kTree, l, (whoOf x).2, (whoOf y).2, lineR s4 []⟩
     let e6 := if e5 = 0 then comE c else e5
     if e6 = 0 then (0, c) else (e6, zeroCom)) := by
  rw [comP]
  simp only [hq]
end Go.Graft
namespace Go.Graft
open Go.Sym
def wholeE (k : Int) (b : Str) : Int := if objErr k b ≠ 0 then objErr k b else if k = 2 then (treeOf b).1 else if k = 3 then (comR b).1 else if k = 4 then (tgR b).1 else 0
def namesOf (k : Int) (b : Str) : List Str := if k = 2 then (treeOf b).2.map En.id else if k = 3 then (comR b).2.tree :: (comR b).2.pars else if k = 4 then [(tgR b).2.obj] else []
def dedN (l : List Str) : Nat → List Str
  | 0 => []
  | i + 1 => if hasS (dedN l i) l[i]! = true then dedN l i else dedN l i ++ [l[i]!]
theorem dedN_len (l : List Str) : ∀ i, (dedN l i).length ≤ i
  | 0 => Nat.le_refl _
  | i + 1 => by
    have := dedN_len l i
    rw [dedN]
    split
    · omega
    · simp; omega
def dedup (l : List Str) : List Str := dedN l l.length
def linksOf (k : Int) (b : Str) : List Str := if wholeE k b ≠ 0 then [] else dedup (namesOf k b)
theorem objErr_len {k : Int} {b : Str} (h : objErr k b = 0) : b.length ≤ 1048576 := by
  rw [objErr] at h
  split at h
  · omega
  · split at h
    · omega
    · omega
theorem treeOf_len (s : Str) : (treeOf s).2.length ≤ s.length := by
  rw [treeOf]
  split
  · simp
  split
  · simp
  · have key : ∀ (f : Nat) (s : Str) (acc : List En), (parseA f s acc).2.length ≤ acc.length + s.length := by
      intro f
      induction f with
      | zero => intro s acc; rw [parseA]; simp
      | succ f ih =>
        intro s acc
        rw [parseA]
        split
        · simp
        split
        · simp
        · rename_i h1 h2
          have h3 := oneE_short (s := s) (by simpa using h2)
          have h4 := ih (oneE s).2.2 (acc ++ [(oneE s).2.1])
          simp only [List.length_append, List.length_singleton] at h4
          omega
    have := key s.length s []
    simpa [entsA] using this
theorem parsR_len : ∀ (f : Nat) (s : Str) (l : List Str), s.length < f → ∀ s2 l2, parsR f s l = some (s2, l2) → l2.length ≤ l.length + s.length ∧ s2.length ≤ s.length
  | 0, s, l, h, s2, l2, _ => by omega
  | f + 1, s, l, h, s2, l2, he => by
    rw [parsR] at he
    split at he
    · rename_i hl
      have hs := lineR_short s kPar hl
      split at he
      · have := parsR_len f _ _ (by omega) s2 l2 he
        simp only [List.length_append, List.length_singleton] at this
        omega
      · simp at he
    · simp at he
      obtain ⟨rfl, rfl⟩ := he
      omega
theorem comR_len (s : Str) : (comR s).2.pars.length ≤ s.length := by
  rw [comR]
  split
  · simp [zeroCom]
  split
  · simp [zeroCom]
  · rename_i s2 l h
    have h1 := parsR_len _ _ _ (by omega) s2 l h
    have h2 := lineR_le s kTree
    simp only [List.length_nil] at h1
    simp only []
    split
    · simp [zeroCom]
    split
    · simp [zeroCom]
    split
    · simp only; omega
    · simp [zeroCom]
theorem namesOf_len (k : Int) (b : Str) : (namesOf k b).length ≤ b.length + 1 := by
  rw [namesOf]
  split
  · have := treeOf_len b; simp only [List.length_map]; omega
  split
  · have := comR_len b; simp only [List.length_cons]; omega
  split
  · simp
  · simp
theorem tgP_def (s : Str) : tgP s =
    (let s1 := lineR s kObj
     let e1 := rdId s 0 kObj
     let w := lineV s1 kTyp
     let s2 := lineR s1 kTyp
     let e2 := if kindW w = 0 then failE (lnE s1 kTyp e1) 2 else lnE s1 kTyp e1
     let s3 := lineR s2 kTag
     let e3 := lnE s2 kTag e2
     let x := lineV s3 kTgr
     let s4 := lineR s3 kTgr
     let e4 := rdWho s3 e3 kTgr
     let e5 := if lineV s4 [] = [] then lnE s4 [] e4 else failE (lnE s4 [] e4) 2
     let t : Tg := ⟨lineV s kObj, kindW w, lineV s2 kTag, (whoOf x).2, lineR s4 []⟩
     let e6 := if e5 = 0 then tgE t else e5
     if e6 = 0 then (0, t) else (e6, zeroTg)) := rfl
end Go.Graft
