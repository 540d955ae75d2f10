/- A part of the proof: Hj, GWho, Hl. -/
import Derived.Test.YtbnnmnbidkpmcaaGreatDoorPart30
set_option linter.unusedVariables false
set_option linter.unusedSimpArgs false
namespace Go.Proofs.Tryz
open Go Go.Sym Go.Graft
set_option maxRecDepth 20000
theorem cDigits16 (s : Str) (hs : s.length ≤ 1000000000000) : Ctr prog 164 [sV s] [] (bV (numOk s)) [] [] := by
 have hnb : numBad s = (decide ((s.length : Int) < 1) || decide (18 < (s.length : Int)) || (decide (1 < (s.length : Int)) && decide (((s.getD 0 0).toNat : Int) = 48))) := rfl
 refine Ctr.enter tblOk func164 rfl (by decide) rfl (nt := 38) rfl rfl rfl rfl ?_
 refine Trip.sr tblOk ?_
 refine Trip.seq (Trip.sR tblOk (by repeat' (first | exact rfl | (apply Rule.under tblOk; intro hγ; with_reducible apply Rule.index) | ((with_reducible refine Side.mk ?_); first | exact fun h => h | exact fun _ h => congrArg Bool.not h | (intro h1 h2; rw [h1, h2]; rfl) | exact fun _ => hγ | (have h2 := hγ; simp only [gpick, cond_true, cond_false, decide_eq_true_eq, Bool.and_eq_true, Bool.or_eq_true, Bool.not_eq_true', Bool.not_eq_false', Bool.or_eq_false_iff, decide_eq_false_iff_not, List.length_map] at h2; (try simp only [List.length_map]); omega)) | constructor)) ?_)
 apply Trip.cond (.tmp rfl)
 ·intro h
  have h : numBad s = true := h
  rw [numOk_bad h]
  refine Trip.sr tblOk ?_
  refine Trip.ret (rt1 [] (hc := by repeat' (exact cvB (by simp only [List.length_map]))))
 intro h
 have hb : numBad s = false := h
 refine Trip.skip (Trip.seq (Trip.sr tblOk ?_))
 refine Trip.block ?_
 refine Trip.loop (fun (i : Nat) => ⟨[(0, sV s), (3, iV i)], []⟩) (fun (i : Nat) => i ≤ s.length ∧ ∀ j, j < i → badD (s.getD j 0) = false) (fun (i : Nat) => s.length - i) (0) (by exact ⟨Nat.zero_le _, fun j hj => absurd hj (by omega)⟩) Weak.kp ?_
 intro i hi
 obtain ⟨hi, hj⟩ := hi
 refine Trip.seq (Trip.sr tblOk ?_)
 apply Trip.cond (.tmp rfl)
 ·intro h
  have h : i < s.length := by simp at h; omega
  refine Trip.skip (Trip.seq (Trip.block (Trip.sR tblOk (by repeat' (first | exact rfl | (apply Rule.under tblOk; intro hγ; with_reducible apply Rule.index) | ((with_reducible refine Side.mk ?_); first | omega | exact fun h => h | exact fun _ h => congrArg Bool.not h | exact fun _ => hγ) | constructor)) ?_)))
  apply Trip.cond (.tmp rfl)
  ·intro h2
   have h2 : badD (s.getD i 0) = true := h2
   rw [numOk_false h h2]
   refine Trip.sr tblOk ?_
   refine Trip.ret (rt1 [] (hc := by repeat' (exact cvB (by simp only [List.length_map]))))
  intro h2
  have h2 : badD (s.getD i 0) = false := h2
  refine Trip.skip (Trip.R tblOk (by repeat' (first | exact rfl | ((with_reducible refine Side.mk ?_); omega) | constructor)) ?_)
  exact ⟨i + 1, by exact ⟨by omega, fun j h3 => (Nat.lt_succ_iff_lt_or_eq.1 h3).elim (hj j) (fun e => e ▸ h2)⟩, by first | omega | (dsimp only at *; omega), Weak.kp⟩
 intro h
 have h : i = s.length := by simp at h; omega
 subst h
 have hok := numOk_true hb hj
 refine Trip.exit ?_
 rw [hok]
 refine Trip.sr tblOk ?_
 refine Trip.ret (rt1 [] (hc := by repeat' (exact cvB (by simp only [List.length_map]))))
theorem cValue16 (s : Str) (hs : s.length ≤ 18) (hd : ∀ c ∈ s, badD c = false) : Ctr prog 165 [sV s] [] (iV (valD s)) [] [] := by
 refine Ctr.enter tblOk func165 rfl (by decide) rfl (nt := 20) rfl rfl rfl rfl ?_
 refine Trip.sr tblOk ?_
 refine Trip.sr tblOk ?_
 refine Trip.seq (Trip.sr tblOk ?_)
 refine Trip.block ?_
 refine Trip.loop (fun (i : Nat) => ⟨[(0, sV s), (3, iV (valD (s.take i))), (4, iV i)], []⟩) (fun (i : Nat) => i ≤ s.length) (fun (i : Nat) => s.length - i) (0) (by first | omega | (simp; done)) Weak.kp ?_
 intro i hi
 refine Trip.seq (Trip.sr tblOk ?_)
 apply Trip.cond (.tmp rfl)
 ·intro h
  have h : i < s.length := by simp at h; omega
  have h1 := valD_le hs hd i h
  have h2 := valD_take s i h
  have h3 := hd (s.getD i 0) (by rw [List.getD_eq_getElem?_getD, List.getElem?_eq_getElem h]; exact List.getElem_mem h)
  have h4 : 48 ≤ (s.getD i 0).toNat ∧ (s.getD i 0).toNat ≤ 57 := by
   simp only [badD, Bool.or_eq_false_iff, decide_eq_false_iff_not] at h3; omega
  have h5 := wrap64n (s.getD i 0).toNat (s.getD i 0).toNat_lt
  have h6 : 10 * ((valD (s.take i) : Nat) : Int) + (s.getD i 0).toNat - 48 = ((valD (s.take (i + 1)) : Nat) : Int) := by rw [h2, valF]; omega
  clear h2
  generalize valD (s.take i) = v at *
  refine Trip.skip (Trip.seq (Trip.block (Trip.R tblOk (by repeat' (first | exact rfl | ((with_reducible refine Side.mk ?_); first | omega | (simp only [ln]; first | done | omega)) | constructor)) ?_)))
  refine Trip.R tblOk (by repeat' (first | exact rfl | ((with_reducible refine Side.mk ?_); omega) | constructor)) ?_
  exact ⟨i + 1, by first | omega | (dsimp only at *; omega), by first | omega | (dsimp only at *; omega), Weak.kp (ht := by repeat' (first | exact rfl | (refine vI ?_; simp only [Int.toNat_natCast, h5]; exact h6) | constructor))⟩
 intro h
 have h : i = s.length := by simp at h; omega
 subst h
 rw [List.take_length]
 refine Trip.exit (Trip.sr tblOk ?_)
 refine Trip.ret (rt1 [])
theorem wrapSmall (n : Int) (h1 : -1000000 ≤ n) (h2 : n ≤ 1000000) : IntKind.wrap .i64 n = n := by simp [IntKind.wrap, IntKind.bits, IntKind.signed]; omega
theorem cZone16 (s : Str) (hs : s.length ≤ 1000000000000) : Ctr prog 163 [sV s] [] (.tup [iV (zonV s), bV (zonOk s)]) [] [] := by
 have hnb : zonBad s = (decide (¬ (s.length : Int) = 5) || (decide (¬ ((s.getD 0 0).toNat : Int) = 43) && decide (¬ ((s.getD 0 0).toNat : Int) = 45)) || decide (s = [45, 48, 48, 48, 48])) := rfl
 have hno : zonOk s = false → zonV s = 0 := fun h => by rw [zonV, if_pos h]
 refine Ctr.enter tblOk func163 rfl (by decide) rfl (nt := 55) rfl rfl rfl rfl ?_
 refine Trip.sr tblOk ?_
 refine Trip.seq (Trip.sR tblOk (by repeat' (first | exact rfl | (apply Rule.under tblOk; intro hγ; with_reducible apply Rule.index) | ((with_reducible refine Side.mk ?_); first | exact fun h => h | exact fun _ h => congrArg Bool.not h | (intro h1 h2; rw [h1, h2]; rfl) | exact fun _ => hγ | (have h2 := hγ; simp only [gpick, cond_true, cond_false, decide_eq_true_eq, Bool.and_eq_true, Bool.or_eq_true, Bool.not_eq_true', Bool.not_eq_false', Bool.or_eq_false_iff, decide_eq_false_iff_not, List.length_map] at h2; (try simp only [List.length_map]); omega)) | constructor)) ?_)
 apply Trip.cond (.tmp rfl)
 ·intro h
  have h : zonBad s = true := by rw [hnb]; simpa using h
  rw [hno (zonOk_bad h), zonOk_bad h]
  refine Trip.sr tblOk ?_
  refine Trip.ret (rt2 [] (hd := by repeat' (exact cvB (by simp only [List.length_map]))))
 intro h
 have hb : zonBad s = false := by rw [hnb]; simpa using h
 have hl := zonBad_len hb
 refine Trip.skip (Trip.seq (Trip.sr tblOk ?_))
 refine Trip.block ?_
 refine Trip.loop (fun (i : Nat) => ⟨[(0, sV s), (4, iV i)], []⟩) (fun (i : Nat) => 1 ≤ i ∧ i ≤ 5 ∧ ∀ j, 1 ≤ j → j < i → badD (s.getD j 0) = false) (fun (i : Nat) => 5 - i) (1) (by exact ⟨Nat.le_refl _, by omega, fun j h1 h2 => absurd h1 (by omega)⟩) Weak.kp ?_
 intro i hi
 obtain ⟨hi1, hi, hj⟩ := hi
 refine Trip.seq (Trip.sr tblOk ?_)
 apply Trip.cond (.tmp rfl)
 ·intro h
  have h : i < 5 := by simp at h; omega
  refine Trip.skip (Trip.seq (Trip.block (Trip.sR tblOk (by repeat' (first | exact rfl | (apply Rule.under tblOk; intro hγ; with_reducible apply Rule.index) | ((with_reducible refine Side.mk ?_); first | omega | exact fun h => h | exact fun _ h => congrArg Bool.not h | exact fun _ => hγ) | constructor)) ?_)))
  apply Trip.cond (.tmp rfl)
  ·intro h2
   have h2 : badD (s.getD i 0) = true := h2
   rw [hno (zonOk_dig hl hi1 h h2), zonOk_dig hl hi1 h h2]
   refine Trip.sr tblOk ?_
   refine Trip.ret (rt2 [] (hd := by repeat' (exact cvB (by simp only [List.length_map]))))
  intro h2
  have h2 : badD (s.getD i 0) = false := h2
  refine Trip.skip (Trip.R tblOk (by repeat' (first | exact rfl | ((with_reducible refine Side.mk ?_); omega) | constructor)) ?_)
  exact ⟨i + 1, by exact ⟨by omega, by omega, fun j h1 h3 => (Nat.lt_succ_iff_lt_or_eq.1 h3).elim (hj j h1) (fun e => e ▸ h2)⟩, by first | omega | (dsimp only at *; omega), Weak.kp⟩
 intro h
 have h : i = 5 := by simp at h; omega
 subst h
 have hok := zonOk_end hb hj
 have hv := zon_vals hl hj
 obtain ⟨hd1, hd2⟩ := zon_digs hl hj
 have e3 : (s.take s.length).drop 3 = s.drop 3 := by rw [List.take_length]
 have e1 : (s.take 3).drop 1 = (s.drop 1).take 2 := by rw [List.drop_take]
 have hl1 : ((s.take 3).drop 1).length ≤ 18 := by rw [e1, List.length_take]; omega
 have hl3 : ((s.take s.length).drop 3).length ≤ 18 := by rw [e3, List.length_drop]; omega
 have c1 : Ctr prog 165 [sV ((s.take 3).drop 1)] [] (iV (zonH s)) [] [] := by
  have := cValue16 ((s.take 3).drop 1) hl1 (by rw [e1]; exact hd2)
  rw [e1] at this ⊢; exact this
 have c2 : Ctr prog 165 [sV ((s.take s.length).drop 3)] [] (iV (zonM s)) [] [] := by
  have := cValue16 ((s.take s.length).drop 3) hl3 (by rw [e3]; exact hd1)
  rw [e3] at this ⊢; exact this
 rw [zonV, hok]
 generalize zonM s = m at *
 generalize zonH s = hh at *
 refine Trip.exit (Trip.sR tblOk (by repeat' (first | exact rfl | (apply Rule.sem; intro hγ; with_reducible apply F_call0 (x := .func 165) (B := []) hγ (hspec := c2)) | ((first | with_reducible refine bokL ?_ | with_reducible refine Side.mk ?_); first | omega | exact .inl rfl) | constructor)) ?_)
 refine Trip.seq (Trip.sr tblOk ?_)
 apply Trip.cond (.tmp rfl)
 ·intro h
  have h : ¬ m < 60 := by simp at h; omega
  rw [decide_eq_false h, if_pos rfl]
  refine Trip.sr tblOk ?_
  refine Trip.ret (rt2 [] (hd := by repeat' (exact cvB (by simp only [List.length_map]))))
 intro h
 have h : m < 60 := by simp at h; omega
 rw [decide_eq_true h, if_neg (by simp)]
 refine Trip.skip (Trip.sR tblOk (by repeat' (first | exact rfl | (apply Rule.sem; intro hγ; with_reducible apply F_call0 (x := .func 165) (B := []) hγ (hspec := c1)) | ((first | with_reducible refine bok ?_ | with_reducible refine Side.mk ?_); first | omega | exact .inl rfl) | constructor)) ?_)
 refine Trip.seq (Trip.sR tblOk (by repeat' (first | exact rfl | ((with_reducible refine Side.mk ?_); omega) | constructor)) ?_)
 apply Trip.cond (.tmp rfl)
 ·intro h2
  have h2 : ((s.getD 0 0).toNat : Int) = 45 := by simpa using h2
  rw [if_pos h2]
  refine Trip.sr tblOk ?_
  refine Trip.ret (rt2 [] (hc := by repeat' (exact cvI (by rw [wrapSmall _ (by omega) (by omega)]; omega))) (hd := by repeat' (exact cvB (by simp only [List.length_map]))))
 intro h2
 have h2 : ¬ ((s.getD 0 0).toNat : Int) = 45 := by simpa using h2
 rw [if_neg h2]
 refine Trip.skip (Trip.sr tblOk ?_)
 refine Trip.ret (rt2 [] (hd := by repeat' (exact cvB (by simp only [List.length_map]))))
theorem cFind16 (s t : Str) (a : Nat) (hs : s.length ≤ 1000000000000) (ht : t ≠ []) (htl : t.length ≤ 1000000000000) (ha : a ≤ 1000000000000) : Ctr prog 133 [sV s, sV t, iV a] [] (iV (findS s t a)) [] [] := by
 refine Ctr.enter tblOk func133 rfl (by decide) rfl (nt := 28) rfl rfl rfl rfl ?_
 refine Trip.sr tblOk ?_
 refine Trip.seq (Trip.sr tblOk ?_)
 refine Trip.block ?_
 refine Trip.loop (fun (i : Nat) => ⟨[(0, sV s), (1, sV t), (7, iV i)], []⟩) (fun (i : Nat) => a ≤ i ∧ (i ≤ a ∨ i ≤ s.length) ∧ ∀ j, a ≤ j → j < i → (s.drop j).take t.length ≠ t) (fun (i : Nat) => s.length + 1 - i) (a) (by exact ⟨Nat.le_refl _, .inl (Nat.le_refl _), fun j hj hj2 => absurd hj (by omega)⟩) Weak.kp ?_
 intro i hi
 obtain ⟨hi0, hi, hj⟩ := hi
 have ht1 : 1 ≤ t.length := by
  cases t with
  | nil => exact absurd rfl ht
  | cons _ _ => simp
 refine Trip.seq (Trip.sR tblOk (by repeat' (first | exact rfl | ((with_reducible refine Side.mk ?_); omega) | constructor)) ?_)
 apply Trip.cond (.tmp rfl)
 ·intro h
  have h : i + t.length ≤ s.length := by simp at h; omega
  have e : (s.take (i + t.length)).drop i = (s.drop i).take t.length := by rw [List.drop_take, Nat.add_sub_cancel_left]
  refine Trip.skip (Trip.seq (Trip.block (Trip.sR tblOk (by repeat' (first | exact rfl | ((first | with_reducible refine bok ?_ | with_reducible refine Side.mk ?_); omega) | constructor)) ?_)))
  apply Trip.cond (.tmp rfl)
  ·intro h2
   have h2 : (s.take (i + t.length)).drop i = t := by
    have e2 : ((i : Int) + (t.length : Int)).toNat = i + t.length := by omega
    have h2 : (s.take ((i : Int) + (t.length : Int)).toNat).drop i = t := of_decide_eq_true h2
    rwa [e2] at h2
   rw [findS_some hi0 h hj (e.symm.trans h2)]
   refine Trip.sr tblOk ?_
   refine Trip.ret (rt1 [])
  intro h2
  have h2 : ¬ (s.drop i).take t.length = t := by
   have e2 : ((i : Int) + (t.length : Int)).toNat = i + t.length := by omega
   have h2 : ¬ (s.take ((i : Int) + (t.length : Int)).toNat).drop i = t := of_decide_eq_false h2
   rwa [e2, e] at h2
  refine Trip.skip (Trip.R tblOk (by repeat' (first | exact rfl | ((with_reducible refine Side.mk ?_); omega) | constructor)) ?_)
  exact ⟨i + 1, by exact ⟨by omega, .inr (by omega), fun j h3 h4 => (Nat.lt_succ_iff_lt_or_eq.1 h4).elim (hj j h3) (fun e => e ▸ h2)⟩, by first | omega | (dsimp only at *; omega), Weak.kp⟩
 intro h
 have h : ¬ i + t.length ≤ s.length := by simp at h; omega
 rw [findS_none ht fun j h1 h2 => hj j h1 (by omega)]
 refine Trip.exit (Trip.sr tblOk ?_)
 refine Trip.ret (rt1 [])
end Go.Proofs.Tryz
namespace Go.Graft
open Go.Sym
theorem indexAny_none : ∀ {s chars : Str}, (∀ c ∈ s, chars.contains c = false) → Lib.indexAny s chars = -1
 | [], _, _ => rfl
 | b :: l, chars, h => by
  have h0 := h b (by simp)
  rw [Lib.indexAny, h0, indexAny_none fun c hc => h c (by simp [hc])]
  rfl
theorem angled_any (s : Str) : Lib.containsAny s [60, 62] = angled s := by
 induction s with
 | nil => rfl
 | cons b r ih =>
  have hge := Lib.indexAny_ge [60, 62] r
  simp only [Lib.containsAny, angled, List.any_cons] at ih ⊢
  rw [← ih, Lib.indexAny]
  by_cases h1 : b = 60
  ·subst h1; simp
  ·by_cases h2 : b = 62
   ·subst h2; simp
   ·have : ([60, 62] : Str).contains b = false := by simp [h1, h2]
    rw [this, decide_eq_false h1, decide_eq_false h2]
    simp only [Bool.false_eq_true, if_false, Bool.or_self, Bool.false_or]
    refine decide_eq_decide.2 ?_
    split
    ·rename_i h; have := beq_iff_eq.1 h; omega
    ·rename_i h; have : Lib.indexAny r [60, 62] ≠ -1 := by simpa using h
     omega
theorem angled_append (a b : Str) : angled (a ++ b) = (angled a || angled b) := by rw [angled, List.any_append]; rfl
theorem has_byte (s : Str) (c : UInt8) : decide (0 ≤ findS s [c] 0) = s.contains c := by
 rw [findS, List.drop_zero, index_one]
 have key : (0 ≤ Lib.indexByte s c) ↔ c ∈ s := by
  induction s with
  | nil => simp [Lib.indexByte]
  | cons b r ih =>
   have hge := Lib.indexByte_ge r c
   rw [Lib.indexByte]
   by_cases h : b = c
   ·subst h; simp
   ·have e : (b == c) = false := by simpa using h
    rw [e]
    simp only [Bool.false_eq_true, if_false, List.mem_cons]
    have hc : ¬ c = b := fun h' => h h'.symm
    split
    ·rename_i h2; have := beq_iff_eq.1 h2
     constructor
     ·intro h; omega
     ·intro h; have := ih.2 (h.resolve_left hc); omega
    ·rename_i h2
     have h2 : Lib.indexByte r c ≠ -1 := by simpa using h2
     constructor
     ·intro h; exact .inr (ih.1 (by omega))
     ·intro h; have := ih.2 (h.resolve_left hc); omega
 have e2 : (0 ≤ if Lib.indexByte s c < 0 then (-1 : Int) else ((0 : Nat) : Int) + Lib.indexByte s c) ↔ c ∈ s := by
  rw [← key]
  split <;> omega
 rw [Bool.eq_iff_iff, decide_eq_true_eq, List.contains_iff_mem]
 exact e2
theorem angled_has (s : Str) : angled s = (s.contains 60 || s.contains 62) := by
 rw [Bool.eq_iff_iff, angled, List.any_eq_true, Bool.or_eq_true, List.contains_iff_mem, List.contains_iff_mem]
 constructor
 ·rintro ⟨x, hx, h⟩
  simp only [Bool.or_eq_true, decide_eq_true_eq] at h
  rcases h with rfl | rfl
  ·exact .inl hx
  ·exact .inr hx
 ·rintro (h | h)
  ·exact ⟨60, h, by simp⟩
  ·exact ⟨62, h, by simp⟩
theorem cut_some {s t : Str} {k : Nat} (h : Lib.index s t = (k : Int)) : Lib.cut s t = (s.take k, s.drop (k + t.length), true) := by
 rw [Lib.cut, if_pos (by omega), h]; rfl
theorem cut_none {s t : Str} (h : Lib.index s t = -1) : Lib.cut s t = (s, [], false) := by rw [Lib.cut, if_neg (by omega)]
theorem index_skip (r : Str) : Lib.index (32 :: 60 :: r) [62, 32] = if Lib.index r [62, 32] = -1 then -1 else Lib.index r [62, 32] + 2 := by
 have hge := Lib.index_ge r [62, 32]
 have h2 : Lib.index (60 :: r) [62, 32] = if Lib.index r [62, 32] = -1 then -1 else Lib.index r [62, 32] + 1 := by
  rw [Lib.index]
  have : ([62, 32] : Str).isPrefixOf (60 :: r) = false := by simp [List.isPrefixOf]
  rw [this]
  simp only [beq_iff_eq, Bool.false_eq_true, if_false]
 rw [Lib.index]
 have : ([62, 32] : Str).isPrefixOf (32 :: 60 :: r) = false := by simp [List.isPrefixOf]
 rw [this, h2]
 simp only [beq_iff_eq, Bool.false_eq_true, if_false]
 split
 ·rename_i h; rw [if_pos rfl]
 ·rename_i h; rw [if_neg (by omega)]; omega
theorem occ_drop {s t : Str} {k : Nat} (h : Lib.index s t = (k : Int)) : (s.drop k).take t.length = t ∧ k + t.length ≤ s.length := by
 have hr := Lib.index_room s t (by omega)
 rcases Lib.index_spec s t with ⟨h1, _⟩ | ⟨i, h1, _, h3, _⟩
 ·omega
 ·have : i = k := by omega
  subst this
  rw [Lib.occAt_iff_take _ _ _ (by omega)] at h3
  exact ⟨by simpa using h3, by omega⟩
structure Offs (s : Str) (a b c : Nat) : Prop where
 ab : a + 2 ≤ b
 bc : b + 2 ≤ c
 cl : c + 1 ≤ s.length
 n1 : (Lib.cut s [32, 60]).1 = s.take a
 n2 : (Lib.cut (Lib.cut s [32, 60]).2.1 [62, 32]).1 = (s.take b).drop (a + 2)
 n3 : (Lib.cut (Lib.cut (Lib.cut s [32, 60]).2.1 [62, 32]).2.1 [32]).1 = (s.take c).drop (b + 2)
 n4 : (Lib.cut (Lib.cut (Lib.cut s [32, 60]).2.1 [62, 32]).2.1 [32]).2.1 = s.drop (c + 1)
 t1 : (Lib.cut s [32, 60]).2.2 = true
 t2 : (Lib.cut (Lib.cut s [32, 60]).2.1 [62, 32]).2.2 = true
 t3 : (Lib.cut (Lib.cut (Lib.cut s [32, 60]).2.1 [62, 32]).2.1 [32]).2.2 = true
theorem who_none {s : Str} (h : ((Lib.cut s [32, 60]).2.2 && (Lib.cut (Lib.cut s [32, 60]).2.1 [62, 32]).2.2 && (Lib.cut (Lib.cut (Lib.cut s [32, 60]).2.1 [62, 32]).2.1 [32]).2.2) = false) : whoOf s = (2, zeroPer) := by
 rw [whoOf, if_pos]
 rw [h]; rfl
theorem find_a {s : Str} (h : findS s [32, 60] 0 < 0) : whoOf s = (2, zeroPer) := by
 rcases findS_cases s [32, 60] 0 with ⟨_, h2⟩ | ⟨i, h2, _⟩
 ·rw [List.drop_zero] at h2
  exact who_none (by rw [cut_none h2]; rfl)
 ·omega
theorem find_a_some {s : Str} (h : ¬ findS s [32, 60] 0 < 0) : ∃ a : Nat, findS s [32, 60] 0 = (a : Int) ∧ a + 2 ≤ s.length ∧ Lib.cut s [32, 60] = (s.take a, s.drop (a + 2), true) ∧ s.drop a = 32 :: 60 :: s.drop (a + 2) := by
 rcases findS_cases s [32, 60] 0 with ⟨h1, _⟩ | ⟨i, h2, _, h4, h5⟩
 ·omega
 ·rw [List.drop_zero] at h4
  have h4 : Lib.index s [32, 60] = (i : Int) := h4
  obtain ⟨g1, g2⟩ := occ_drop h4
  have g2 : i + 2 ≤ s.length := g2
  refine ⟨i, h2, g2, cut_some h4, ?_⟩
  have : s.drop i = (s.drop i).take 2 ++ (s.drop i).drop 2 := (List.take_append_drop 2 _).symm
  rw [this, List.drop_drop]
  have g1 : (s.drop i).take 2 = [32, 60] := g1
  rw [g1]; rfl
theorem find_b {s : Str} {a : Nat} (hc : Lib.cut s [32, 60] = (s.take a, s.drop (a + 2), true)) (hd : s.drop a = 32 :: 60 :: s.drop (a + 2)) (h : findS s [62, 32] a < 0) : whoOf s = (2, zeroPer) := by
 refine who_none ?_
 have h1 : Lib.index (s.drop (a + 2)) [62, 32] = -1 := by
  have hge := Lib.index_ge (s.drop (a + 2)) [62, 32]
  rw [findS, hd, index_skip] at h
  split at h
  ·rename_i h2; exact h2
  ·rename_i h2; rw [if_neg (by omega)] at h; omega
 rw [hc]
 simp only []
 rw [cut_none h1]; rfl
theorem find_b_some {s : Str} {a : Nat} (ha : a + 2 ≤ s.length) (hc : Lib.cut s [32, 60] = (s.take a, s.drop (a + 2), true)) (hd : s.drop a = 32 :: 60 :: s.drop (a + 2)) (h : ¬ findS s [62, 32] a < 0) : ∃ b : Nat, findS s [62, 32] a = (b : Int) ∧ a + 2 ≤ b ∧ b + 2 ≤ s.length ∧ Lib.cut (s.drop (a + 2)) [62, 32] = ((s.take b).drop (a + 2), s.drop (b + 2), true) := by
 have hge := Lib.index_ge (s.drop (a + 2)) [62, 32]
 have hix : Lib.index (s.drop (a + 2)) [62, 32] ≠ -1 ∧ findS s [62, 32] a = a + 2 + Lib.index (s.drop (a + 2)) [62, 32] := by
  rw [findS, hd, index_skip] at h ⊢
  by_cases h2 : Lib.index (s.drop (a + 2)) [62, 32] = -1
  ·rw [if_pos h2] at h; simp at h
  ·rw [if_neg h2, if_neg (by omega)]
   exact ⟨h2, by omega⟩
 obtain ⟨k, hk⟩ : ∃ k : Nat, Lib.index (s.drop (a + 2)) [62, 32] = (k : Int) := ⟨(Lib.index (s.drop (a + 2)) [62, 32]).toNat, by omega⟩
 obtain ⟨_, g2⟩ := occ_drop hk
 have g2 : k + 2 ≤ (s.drop (a + 2)).length := g2
 rw [List.length_drop] at g2
 refine ⟨a + 2 + k, by rw [hix.2, hk]; omega, by omega, by omega, ?_⟩
 rw [cut_some hk]
 refine Prod.ext ?_ (Prod.ext ?_ rfl)
 ·show (s.drop (a + 2)).take k = (s.take (a + 2 + k)).drop (a + 2)
  rw [List.drop_take, Nat.add_sub_cancel_left]
 ·show (s.drop (a + 2)).drop (k + 2) = s.drop (a + 2 + k + 2)
  rw [List.drop_drop, show a + 2 + (k + 2) = a + 2 + k + 2 by omega]
theorem find_c {s : Str} {a b : Nat} (hc : Lib.cut s [32, 60] = (s.take a, s.drop (a + 2), true)) (hc2 : Lib.cut (s.drop (a + 2)) [62, 32] = ((s.take b).drop (a + 2), s.drop (b + 2), true)) (h : findS s [32] (b + 2) < 0) : whoOf s = (2, zeroPer) := by
 refine who_none ?_
 rcases findS_cases s [32] (b + 2) with ⟨_, h2⟩ | ⟨i, h2, _⟩
 ·rw [hc]
  simp only []
  rw [hc2]
  simp only []
  rw [cut_none h2]; rfl
 ·omega
theorem find_c_some {s : Str} {a b : Nat} (hab : a + 2 ≤ b) (hb : b + 2 ≤ s.length) (hc : Lib.cut s [32, 60] = (s.take a, s.drop (a + 2), true)) (hc2 : Lib.cut (s.drop (a + 2)) [62, 32] = ((s.take b).drop (a + 2), s.drop (b + 2), true)) (h : ¬ findS s [32] (b + 2) < 0) : ∃ c : Nat, findS s [32] (b + 2) = (c : Int) ∧ Offs s a b c := by
 rcases findS_cases s [32] (b + 2) with ⟨h1, _⟩ | ⟨c, h2, h3, h4, h5⟩
 ·omega
 ·have h5 := h5 hb
  have hc3 := cut_some h4
  have e1 : (s.drop (b + 2)).take (c - (b + 2)) = (s.take c).drop (b + 2) := by rw [List.drop_take]
  have e2 : (s.drop (b + 2)).drop (c - (b + 2) + 1) = s.drop (c + 1) := by rw [List.drop_drop, show b + 2 + (c - (b + 2) + 1) = c + 1 by omega]
  have hc3 : Lib.cut (s.drop (b + 2)) [32] = ((s.take c).drop (b + 2), s.drop (c + 1), true) := by rw [hc3]; exact Prod.ext e1 (Prod.ext e2 rfl)
  refine ⟨c, h2, ⟨hab, h3, h5, by rw [hc], ?_, ?_, ?_, by rw [hc], ?_, ?_⟩⟩ <;> rw [hc] <;> simp only [] <;> rw [hc2] <;> simp only [] <;> rw [hc3]
theorem Offs.who {s : Str} {a b c : Nat} (h : Offs s a b c) : whoOf s = if (!zonOk (s.drop (c + 1)) || !numOk ((s.take c).drop (b + 2)) || (s.take a).contains 60 || (s.take a).contains 62 || ((s.take b).drop (a + 2)).contains 60 || ((s.take b).drop (a + 2)).contains 62) = true then (2, zeroPer) else if perOk (s.take a) ((s.take b).drop (a + 2)) (valD ((s.take c).drop (b + 2))) (zonV (s.drop (c + 1))) = false then (1, zeroPer) else (0, ⟨s.take a, (s.take b).drop (a + 2), valD ((s.take c).drop (b + 2)), zonV (s.drop (c + 1))⟩) := by
 rw [whoOf, h.n1, h.n2, h.n3, h.n4, h.t1, h.t2, h.t3, angled_append, angled_has, angled_has]
 generalize zonOk (s.drop (c + 1)) = b1
 generalize numOk ((s.take c).drop (b + 2)) = b2
 generalize (s.take a).contains 60 = b3
 generalize (s.take a).contains 62 = b4
 generalize ((s.take b).drop (a + 2)).contains 60 = b5
 generalize ((s.take b).drop (a + 2)).contains 62 = b6
 cases b1 <;> cases b2 <;> cases b3 <;> cases b4 <;> cases b5 <;> cases b6 <;> rfl
theorem whoOf_def (s : Str) : whoOf s = (
 if ((Lib.cut s [32, 60]).2.2 && (Lib.cut (Lib.cut s [32, 60]).2.1 [62, 32]).2.2 && (Lib.cut (Lib.cut (Lib.cut s [32, 60]).2.1 [62, 32]).2.1 [32]).2.2 && numOk (Lib.cut (Lib.cut (Lib.cut s [32, 60]).2.1 [62, 32]).2.1 [32]).1 && zonOk (Lib.cut (Lib.cut (Lib.cut s [32, 60]).2.1 [62, 32]).2.1 [32]).2.1 && !angled ((Lib.cut s [32, 60]).1 ++ (Lib.cut (Lib.cut s [32, 60]).2.1 [62, 32]).1)) = false then (2, zeroPer)
 else if perOk (Lib.cut s [32, 60]).1 (Lib.cut (Lib.cut s [32, 60]).2.1 [62, 32]).1 (valD (Lib.cut (Lib.cut (Lib.cut s [32, 60]).2.1 [62, 32]).2.1 [32]).1) (zonV (Lib.cut (Lib.cut (Lib.cut s [32, 60]).2.1 [62, 32]).2.1 [32]).2.1) = false then (1, zeroPer)
 else (0, ⟨(Lib.cut s [32, 60]).1, (Lib.cut (Lib.cut s [32, 60]).2.1 [62, 32]).1, valD (Lib.cut (Lib.cut (Lib.cut s [32, 60]).2.1 [62, 32]).2.1 [32]).1, zonV (Lib.cut (Lib.cut (Lib.cut s [32, 60]).2.1 [62, 32]).2.1 [32]).2.1⟩)) := rfl
end Go.Graft
namespace Go.Proofs.Tryz
open Go Go.Sym Go.Graft
set_option maxRecDepth 20000
set_option maxHeartbeats 1000000 in
theorem cParseWho16 (s : Str) (hs : s.length ≤ 1000000000) : Ctr prog 135 [sV s] [] (.tup [(whoOf s).2.pv, iV (whoOf s).1]) [] [] := by
 have c1 := cFind16 s [32, 60] 0 (by omega) (by simp) (by simp) (by omega)
 have ha0 := find_a (s := s)
 have ha1 := find_a_some (s := s)
 refine Ctr.enter tblOk func135 rfl (by decide) rfl (nt := 95) rfl rfl rfl rfl ?_
 refine Trip.sr tblOk ?_
 refine Trip.sR tblOk (by repeat' (first | exact rfl | (apply Rule.sem; intro hγ; with_reducible apply F_call0 (x := .func 133) (B := []) hγ (hspec := c1)) | ((with_reducible refine Side.mk ?_); exact .inl rfl) | constructor)) ?_
 refine Trip.seq (Trip.sr tblOk ?_)
 apply Trip.cond (.tmp rfl)
 ·intro h
  have h : findS s [32, 60] 0 < 0 := of_decide_eq_true h
  rw [ha0 h]
  refine Trip.sr tblOk ?_
  refine Trip.ret (rt2 [])
 intro h
 have h : ¬ findS s [32, 60] 0 < 0 := of_decide_eq_false h
 obtain ⟨a, e1, g1, g2, g3⟩ := ha1 h
 rw [e1] at *
 have c2 := cFind16 s [62, 32] a (by omega) (by simp) (by simp) (by omega)
 refine Trip.skip (Trip.sR tblOk (by repeat' (first | exact rfl | (apply Rule.sem; intro hγ; with_reducible apply F_call0 (x := .func 133) (B := []) hγ (hspec := c2)) | ((with_reducible refine Side.mk ?_); exact .inl rfl) | constructor)) ?_)
 refine Trip.seq (Trip.sr tblOk ?_)
 apply Trip.cond (.tmp rfl)
 ·intro h
  have h : findS s [62, 32] a < 0 := of_decide_eq_true h
  rw [find_b g2 g3 h]
  refine Trip.sr tblOk ?_
  refine Trip.ret (rt2 [])
 intro h
 have h : ¬ findS s [62, 32] a < 0 := of_decide_eq_false h
 obtain ⟨b, e2, k1, k2, k3⟩ := find_b_some g1 g2 g3 h
 rw [e2] at *
 have c3 := cFind16 s [32] (b + 2) (by omega) (by simp) (by simp) (by omega)
 refine Trip.skip (Trip.sR tblOk (by repeat' (first | exact rfl | (apply Rule.sem; intro hγ; with_reducible apply F_call0 (x := .func 133) (B := []) hγ (hspec := c3)) | ((with_reducible refine Side.mk ?_); first | omega | exact .inl rfl) | constructor)) ?_)
 refine Trip.seq (Trip.sr tblOk ?_)
 apply Trip.cond (.tmp rfl)
 ·intro h
  have h : findS s [32] (b + 2) < 0 := of_decide_eq_true h
  rw [find_c g2 k3 h]
  refine Trip.sr tblOk ?_
  refine Trip.ret (rt2 [])
 intro h
 have h : ¬ findS s [32] (b + 2) < 0 := of_decide_eq_false h
 obtain ⟨c, e3, o⟩ := find_c_some k1 k2 g2 k3 h
 rw [e3] at *
 have hw := o.who
 have o1 : b + 2 ≤ c := o.bc
 have o2 : c + 1 ≤ s.length := o.cl
 have f1 := cZone16 (s.drop (c + 1)) (by rw [List.length_drop]; omega)
 have f2 := cDigits16 ((s.take c).drop (b + 2)) (by rw [List.length_drop, List.length_take]; omega)
 have f3 := cFind16 (s.take a) [60] 0 (by rw [List.length_take]; omega) (by simp) (by simp) (by omega)
 have f4 := cFind16 (s.take a) [62] 0 (by rw [List.length_take]; omega) (by simp) (by simp) (by omega)
 have f5 := cFind16 ((s.take b).drop (a + 2)) [60] 0 (by rw [List.length_drop, List.length_take]; omega) (by simp) (by simp) (by omega)
 have f6 := cFind16 ((s.take b).drop (a + 2)) [62] 0 (by rw [List.length_drop, List.length_take]; omega) (by simp) (by simp) (by omega)
 have f7 := fun (h : numOk ((s.take c).drop (b + 2)) = true) => cValue16 ((s.take c).drop (b + 2)) (numOk_len h).2 (numOk_all h)
 have hnl : (s.take a).length ≤ 1000000000 ∧ ((s.take b).drop (a + 2)).length ≤ 1000000000 := ⟨by rw [List.length_take]; omega, by rw [List.length_drop, List.length_take]; omega⟩
 simp only [← has_byte] at hw
 refine Trip.skip ?_
 have d1 : (s.take s.length).drop (c + 1) = s.drop (c + 1) := by rw [List.take_length]
 refine Trip.dk ⟨[(0, sV s), (2, .ref 2 0), (4, iV a), (5, iV b), (6, iV c), (7, .ref 7 0)], [(2, .box [sV [], sV [], iV 0, iV 0]), (7, .box [sV (s.take a), sV ((s.take b).drop (a + 2)), iV 0, iV 0])]⟩ tblOk mixed (by repeat' (first | exact rfl | ((first | with_reducible refine bok ?_ | with_reducible refine bokR ?_ | with_reducible refine Side.mk ?_); omega) | constructor)) Weak.kp ?_
 rw [← d1] at f1 hw
 generalize zonOk ((s.take s.length).drop (c + 1)) = z1 at *
 generalize zonV ((s.take s.length).drop (c + 1)) = z2 at *
 refine Trip.rk ⟨[(0, sV s), (2, .ref 2 0), (4, iV a), (5, iV b), (6, iV c), (7, .ref 7 0), (8, iV z2), (9, bV z1)], [(2, .box [sV [], sV [], iV 0, iV 0]), (7, .box [sV (s.take a), sV ((s.take b).drop (a + 2)), iV 0, iV 0])]⟩ tblOk (by repeat' (first | exact rfl | (apply Rule.sem; intro hγ; with_reducible apply F_call0 (x := .func 163) (B := []) hγ (hspec := f1)) | ((first | with_reducible refine bokL ?_ | with_reducible refine Side.mk ?_); first | omega | exact .inl rfl) | constructor)) Weak.kp ?_
 generalize ((s.take a).contains 60) = p1 at *
 generalize hnm : s.take a = nm at *
 generalize hml : (s.take b).drop (a + 2) = ml at *
 have htm : (s.take c).drop (b + 2) = (s.take c).drop (b + 2) := rfl
 generalize hnk : numOk ((s.take c).drop (b + 2)) = nk at *
 generalize hvd : ((valD ((s.take c).drop (b + 2)) : Nat) : Int) = vd at *
 refine Trip.seq (Trip.sR tblOk (by repeat' (first | exact rfl | (apply Rule.sem; intro hγ; with_reducible apply F_call0 (x := .func 164) (B := []) hγ (hspec := f2)) | (apply Rule.sem; intro hγ; with_reducible apply F_call0 (dst := some 59) (x := .func 133) (B := []) hγ (hspec := f3)) | (apply Rule.sem; intro hγ; with_reducible apply F_call0 (dst := some 65) (x := .func 133) (B := []) hγ (hspec := f4)) | (apply Rule.sem; intro hγ; with_reducible apply F_call0 (dst := some 71) (x := .func 133) (B := []) hγ (hspec := f5)) | (apply Rule.sem; intro hγ; with_reducible apply F_call0 (dst := some 77) (x := .func 133) (B := []) hγ (hspec := f6)) | ((first | with_reducible refine bok ?_ | with_reducible refine Side.mk ?_); first | omega | exact .inl rfl | exact fun h => h | exact fun _ h => congrArg Bool.not h) | constructor)) ?_)
 apply Trip.cond (.tmp rfl)
 ·intro h
  have h := of_decide_eq_true (decide_eq_true h)
  have h : (!z1 || !nk || decide (0 ≤ findS nm [60] 0) || decide (0 ≤ findS nm [62] 0) || decide (0 ≤ findS ml [60] 0) || decide (0 ≤ findS ml [62] 0)) = true := h
  rw [if_pos h] at hw
  rw [hw]
  refine Trip.sr tblOk ?_
  refine Trip.ret (rt2 [])
 intro h
 have h : (!z1 || !nk || decide (0 ≤ findS nm [60] 0) || decide (0 ≤ findS nm [62] 0) || decide (0 ≤ findS ml [60] 0) || decide (0 ≤ findS ml [62] 0)) = false := h
 have hnkt : nk = true := by
  cases nk with
  | true => rfl
  | false => cases z1 <;> simp at h
 rw [if_neg (by rw [h]; simp)] at hw
 have f7 := f7 hnkt
 have f8 := cPerson2 nm ml vd z2 (by omega) (by omega)
 generalize hpo : perOk nm ml vd z2 = po at *
 refine Trip.skip (Trip.sR tblOk (by repeat' (first | exact rfl | (apply Rule.sem; intro hγ; with_reducible apply F_call0 (x := .func 165) (B := []) hγ (hspec := f7)) | ((first | with_reducible refine bok ?_ | with_reducible refine Side.mk ?_); first | omega | exact .inl rfl) | constructor)) ?_)
 refine Trip.sr tblOk ?_
 refine Trip.seq (Trip.sR tblOk (by repeat' (first | exact rfl | (apply Rule.sem; intro hγ; with_reducible apply F_call0 (x := .func 104) (B := []) hγ (hspec := f8)) | ((with_reducible refine Side.mk ?_); exact .inl rfl) | constructor)) ?_)
 apply Trip.cond (.tmp rfl)
 ·intro h2
  have h2 : po = false := by simpa using h2
  rw [if_pos h2] at hw
  rw [hw]
  refine Trip.sr tblOk ?_
  refine Trip.ret (rt2 [])
 intro h2
 have h2 : po = true := by simpa using h2
 rw [if_neg (by rw [h2]; simp)] at hw
 rw [hw]
 refine Trip.skip (Trip.sr tblOk ?_)
 refine Trip.ret (rt2 [])
end Go.Proofs.Tryz
