/- A part of the proof: Ha, GTre, GZero. -/
import Derived.Lib.SplitLaws
import Derived.Test.YtbnnmnbidkpmcaaGreatDoorPart30
set_option linter.unusedVariables false
set_option linter.unusedSimpArgs false
namespace Go.Proofs.Tryz
open Go Go.Sym Go.Graft Go.RowKit
set_option maxRecDepth 20000
theorem grown_alloc (w : World) (o : Obj) : Go.Sym.Grown w (w.alloc o) := ⟨rfl, rfl, rfl, by simp, fun b hb => Below.heap_alloc _ _ _ hb⟩
theorem sSplit (s : Str) (hs : s.length < 4294967281) : Ctr prog 205 [sV s, sV [47]] [] (.sl false 1 ((splitC 47 s).map fun x => sV x)) [] [] :=
  Ctr.of_new (xs := [.string ⟨⟨s⟩⟩, .string ⟨⟨[47]⟩⟩]) ⟨_, func205, rfl, rfl⟩ rfl fun w hg => by
    obtain ⟨m, hm⟩ := max_at hg
    refine (Tryz.strings_Split ⟨⟨s⟩⟩ ⟨⟨[47]⟩⟩ m w hs hm (by decide)).mono ?_
    rintro e w' ⟨rfl, rfl⟩
    refine ⟨_, rfl, grown_alloc _ _, fun F L hF => ?_⟩
    have h0 := Lib.splitB_all ⟨⟨[47]⟩⟩ (by decide) 0 _ ⟨⟨s⟩⟩ rfl
    have h1 := Lib.splitB_data ⟨⟨[47]⟩⟩ 0 (Lib.countB ⟨⟨s⟩⟩ ⟨⟨[47]⟩⟩) ⟨⟨s⟩⟩
    have h2 : Lib.splitK [47] 0 (Lib.countB ⟨⟨s⟩⟩ ⟨⟨[47]⟩⟩) s = splitC 47 s := split_eq 47 s
    generalize Lib.splitB ⟨⟨[47]⟩⟩ 0 (Lib.countB ⟨⟨s⟩⟩ ⟨⟨[47]⟩⟩) ⟨⟨s⟩⟩ = bs at *
    have h3 : bs.map (·.data.toList) = splitC 47 s := h1.trans h2
    rw [← h0]
    refine .sl (by rw [← h3]; simp) (Nat.le_refl _) (rows_of (hF _ (Nat.le_refl _)) _ (fun x => .string ⟨⟨x⟩⟩) (fun _ => rfl) (fun _ => .v _ _) _ _ fun j x hj => ?_)
    rw [← h3, List.getElem?_map] at hj
    cases hb : bs[j]? with
    | none => rw [hb] at hj; simp at hj
    | some y =>
      rw [hb] at hj
      simp at hj
      subst hj
      have hnew := heap_alloc_new w (.cells (bs.map Value.string).toArray 9)
      simp only [World.cell?, hnew]
      simp [hb]
theorem cPathIs (p : Str) : Ctr prog 180 [sV p] [] (bV (pathOk p)) [] [] := by
  have hpb : pathBad p = (decide (p = []) || decide (255 < (p.length : Int))) := rfl
  refine Ctr.enter tblOk func180 rfl (by decide) rfl (nt := 28) rfl rfl rfl rfl ?_
  refine Trip.seq ?_
  apply Trip.reg tblOk
  · repeat' constructor
  · exact rfl
  refine Trip.seq ?_
  refine Trip.seq ?_
  apply Trip.reg tblOk
  · repeat' (first | exact rfl | ((with_reducible refine Side.mk ?_); first | exact fun h => h | exact fun _ h => congrArg Bool.not h) | constructor)
  · exact rfl
  apply Trip.cond (.tmp rfl)
  · intro h
    have h : pathBad p = true := h
    rw [pathOk_bad h]
    refine Trip.seq ?_
    apply Trip.reg tblOk
    · repeat' constructor
    · exact rfl
    refine Trip.ret ?_
    apply Ret1 []
    · repeat' (first | exact rfl | constructor)
    · exact rfl
    · repeat' (exact cvB (by simp only [List.length_map]))
  intro h
  have hb : pathBad p = false := h
  have hp : p.length ≤ 255 := by
    rw [hpb] at hb
    simp at hb
    omega
  refine Trip.skip ?_
  have cs := sSplit p (by omega)
  have cp := fun x (hx : x ∈ splitC 47 p) => cPart x (by have := splitC_mem_len 47 p x hx; omega)
  have hll := splitC_length 47 p
  have hk1 := fun i => @pathOk_part p i
  have hk2 := pathOk_end (p := p) hb
  generalize splitC 47 p = l at *
  refine Trip.seq ?_
  apply Trip.reg tblOk
  · repeat' (first | exact rfl | (apply Rule.sem; intro hγ; with_reducible apply F_call0 (x := .func 205) (B := []) hγ (hspec := cs)) | ((with_reducible refine Side.mk ?_); exact .inl rfl) | constructor)
  · exact rfl
  refine Trip.seq ?_
  refine Trip.seq ?_
  apply Trip.reg tblOk
  · repeat' (first | exact rfl | constructor)
  · exact rfl
  refine Trip.block ?_
  apply Trip.loop (fun (i : Nat) => ⟨[(3, .sl false 1 (l.map fun x => sV x)), (15, .sl false 1 (l.map fun x => sV x)), (16, iV l.length), (17, iV i)], []⟩) (fun (i : Nat) => i ≤ l.length ∧ ∀ j, j < i → partOk l[j]! = true) (fun (i : Nat) => l.length - i) (0)
  · exact ⟨Nat.zero_le _, fun j hj => absurd hj (by omega)⟩
  · apply Weak.keep
    · exact rfl
    · repeat' (first | exact rfl | (refine vI ?_; first | omega | (simp; done) | (simp; omega) | (simp only [List.length_map] at *; omega)) | constructor)
    · repeat' constructor
    · exact rfl
    · repeat' constructor
  intro i hi
  obtain ⟨hi, hj⟩ := hi
  refine Trip.seq ?_
  apply Trip.reg tblOk
  · repeat' (first | exact rfl | constructor)
  · exact rfl
  refine Trip.seq ?_
  apply Trip.cond (.tmp rfl)
  · intro h
    have h : i < l.length := by simp at h; omega
    have cp := cp _ (bang_mem h)
    refine Trip.skip ?_
    refine Trip.seq ?_
    refine Trip.block ?_
    refine Trip.seq ?_
    apply Trip.reg tblOk
    · repeat' (first | exact rfl | exact idx_map _ _ _ (by show _ < _; first | omega | (simp only [List.length_map] at *; omega)) | ((with_reducible refine Side.mk ?_); (simp only [ln]; first | done | omega)) | constructor)
    · exact rfl
    refine Trip.seq ?_
    apply Trip.reg tblOk
    · repeat' (first | exact rfl | (apply Rule.sem; intro hγ; with_reducible apply F_call0 (x := .func 206) (B := []) hγ (hspec := cp)) | ((with_reducible refine Side.mk ?_); exact .inl rfl) | constructor)
    · exact rfl
    apply Trip.cond (.tmp rfl)
    · intro h2
      rw [hk1 _ h (by simpa using h2)]
      refine Trip.seq ?_
      apply Trip.reg tblOk
      · repeat' constructor
      · exact rfl
      refine Trip.ret ?_
      apply Ret1 []
      · repeat' (first | exact rfl | constructor)
      · exact rfl
      · repeat' (exact cvB (by simp only [List.length_map]))
    intro h2
    have h2 : partOk l[i]! = true := by simpa using h2
    refine Trip.skip ?_
    apply Trip.reg tblOk
    · repeat' (first | exact rfl | ((with_reducible refine Side.mk ?_); omega) | constructor)
    · exact rfl
    refine ⟨i + 1, ?_, ?_, ?_⟩
    · exact ⟨by omega, fun j h3 => (Nat.lt_succ_iff_lt_or_eq.1 h3).elim (hj j) (fun e => e ▸ h2)⟩
    · first | omega | (dsimp only at *; omega)
    · apply Weak.keep
      · exact rfl
      · repeat' (first | exact rfl | constructor)
      · repeat' constructor
      · exact rfl
      · repeat' constructor
  intro h
  have h : i = l.length := by simp at h; omega
  subst h
  refine Trip.exit ?_
  rw [hk2 hj]
  refine Trip.seq ?_
  apply Trip.reg tblOk
  · repeat' (first | exact rfl | constructor)
  · exact rfl
  refine Trip.ret ?_
  apply Ret1 []
  · repeat' (first | exact rfl | constructor)
  · exact rfl
  · repeat' (exact cvB (by simp only [List.length_map]))
theorem cParts6 (p : Str) (hs : p.length ≤ 1000000000000) : Ctr prog 189 [sV p] [] (.sl (decide (p = [])) 1 ((partsOf p).map fun x => sV x)) [] [] := by
  refine Ctr.enter tblOk func189 rfl (by decide) rfl (nt := 33) rfl rfl rfl rfl ?_
  refine Trip.seq ?_
  apply Trip.reg tblOk
  · repeat' constructor
  · exact rfl
  refine Trip.seq ?_
  refine Trip.seq ?_
  apply Trip.reg tblOk
  · repeat' (first | exact rfl | constructor)
  · exact rfl
  apply Trip.cond (.tmp rfl)
  · intro h
    have h : p = [] := by simpa using h
    subst h
    refine Trip.seq ?_
    apply Trip.reg tblOk
    · repeat' constructor
    · exact rfl
    refine Trip.ret ?_
    apply Ret1 []
    · repeat' (first | exact rfl | constructor)
    · exact rfl
    · repeat' constructor
  intro h
  have h : ¬ p = [] := by simpa using h
  rw [decide_eq_false h, partsOf, if_neg h]
  refine Trip.skip ?_
  refine Trip.seq ?_
  apply Trip.reg tblOk
  · repeat' constructor
  · exact rfl
  refine Trip.seq ?_
  apply Trip.reg tblOk
  · repeat' constructor
  · exact rfl
  refine Trip.seq ?_
  refine Trip.seq ?_
  apply Trip.reg tblOk
  · repeat' constructor
  · exact rfl
  refine Trip.block ?_
  apply Trip.loop (fun (x : List Str × Nat × Nat) => ⟨[(0, sV p), (3, .osl 900 0 x.1.length x.1.length), (4, iV x.2.1), (5, iV x.2.2)], [(900, .arr 1 x.1.isEmpty (x.1.map fun x => sV x))]⟩) (fun (x : List Str × Nat × Nat) => Cuts p x.1 x.2.1 x.2.2) (fun (x : List Str × Nat × Nat) => p.length - x.2.2) (([], 0, 0))
  · exact cuts_zero p
  · refine Weak.trans (S2 := ⟨[(0, sV p), (3, nilS), (4, iV 0), (5, iV 0)], []⟩) ?_ ?_
    · apply Weak.keep
      · exact rfl
      · repeat' (first | exact rfl | constructor)
      · repeat' constructor
      · exact rfl
      · repeat' constructor
    · exact Weak.adopt 900 1 rfl rfl (by repeat' (first | exact rfl | constructor)) (by repeat' (first | exact rfl | constructor))
  intro x hx
  obtain ⟨F, a, i⟩ := x
  dsimp only at *
  have hx2 := hx
  obtain ⟨h1, h2, h3, h4⟩ := hx2
  refine Trip.seq ?_
  refine Trip.seq ?_
  apply Trip.reg tblOk
  · repeat' (first | exact rfl | constructor)
  · exact rfl
  apply Trip.cond (.tmp rfl)
  · intro h
    have h : i < p.length := by simp at h; omega
    refine Trip.skip ?_
    refine Trip.seq ?_
    refine Trip.block ?_
    refine Trip.seq ?_
    apply Trip.reg tblOk
    · repeat' (first | exact rfl | ((with_reducible refine Side.mk ?_); omega) | constructor)
    · exact rfl
    apply Trip.cond (.tmp rfl)
    · intro h5
      have h5 : p.getD i 0 = 47 := u8_eq (b := 47) (by simpa using h5)
      have hc := cuts_at hx h h5
      refine Trip.seq ?_
      apply Trip.reg tblOk
      · repeat' (first | exact rfl | ((first | with_reducible refine bok ?_ | with_reducible refine Side.mk ?_); first | omega | (simp only [ln]; first | done | omega)) | constructor)
      · exact rfl
      apply Trip.reg tblOk
      · repeat' (first | exact rfl | ((with_reducible refine Side.mk ?_); omega) | constructor)
      · exact rfl
      apply Trip.reg tblOk
      · repeat' (first | exact rfl | ((with_reducible refine Side.mk ?_); omega) | constructor)
      · exact rfl
      refine ⟨(F ++ [(p.take i).drop a], i + 1, i + 1), ?_, ?_, ?_⟩
      · exact hc
      · first | omega | (dsimp only at *; omega)
      · apply Weak.keep
        · exact rfl
        · repeat' (first | exact rfl | (refine Side.mk (oslE ?_ ?_) <;> (simp only [ln]; first | done | omega)) | constructor)
        · repeat' (first | exact rfl | exact arrF (by simp) (by simp [loOf, hiOf]) | constructor)
        · exact rfl
        · repeat' (first | exact plainL_map _ (fun _ => rfl) _ | constructor)
    intro h5
    have h5 : ¬ p.getD i 0 = 47 := u8_ne (b := 47) (by simpa using h5)
    have hc := cuts_on hx h h5
    refine Trip.skip ?_
    apply Trip.reg tblOk
    · repeat' (first | exact rfl | ((with_reducible refine Side.mk ?_); omega) | constructor)
    · exact rfl
    refine ⟨(F, a, i + 1), ?_, ?_, ?_⟩
    · exact hc
    · first | omega | (dsimp only at *; omega)
    · apply Weak.keep
      · exact rfl
      · repeat' (first | exact rfl | constructor)
      · repeat' (first | exact rfl | constructor)
      · exact rfl
      · repeat' (first | exact plainL_map _ (fun _ => rfl) _ | constructor)
  intro h
  have h : i = p.length := by simp at h; omega
  subst h
  refine Trip.exit ?_
  rw [← cuts_end hx]
  apply Trip.regk ⟨[(2, .osl 900 0 (F ++ [(p.take p.length).drop a]).length (F ++ [(p.take p.length).drop a]).length)], [(900, .arr 1 false ((F ++ [(p.take p.length).drop a]).map fun x => sV x))]⟩ tblOk
  · repeat' (first | exact rfl | ((first | with_reducible refine bokL ?_ | with_reducible refine Side.mk ?_); first | omega | (simp only [ln]; first | done | omega)) | constructor)
  · exact rfl
  · apply Weak.keep
    · exact rfl
    · repeat' (first | exact rfl | (refine Side.mk (oslE ?_ ?_) <;> (simp only [ln]; first | done | omega)) | constructor)
    · repeat' (first | exact rfl | exact arrF (by simp) (by simp [loOf, hiOf]) | constructor)
    · exact rfl
    · repeat' (first | exact plainL_map _ (fun _ => rfl) _ | constructor)
  refine Trip.ret ?_
  apply Ret1 [900]
  · repeat' (first | exact rfl | constructor)
  · exact rfl
  · repeat' (first | exact rfl | exact plainL_map _ (fun _ => rfl) _ | (refine Side.mk ?_; simp only [ln]; first | done | omega) | constructor)
theorem cIs6 (p : Str) (hs : p.length ≤ 1000000000000) : Ctr prog 160 [sV p] [] (bV (pathOk p)) [] [] := by
  have hpb : partsBad p = (decide (((partsOf p).length : Int) < 1) || decide (16 < ((partsOf p).length : Int)) || decide (255 < (p.length : Int))) := rfl
  have c1 := cParts6 p hs
  have hll := partsOf_len p
  have cp : ∀ x, x ∈ partsOf p → Ctr prog 190 [sV x] [] (bV (partOk x)) [] [] := fun x hx => by
    obtain ⟨h1, h2⟩ := partsOf_mem hx
    rw [← h2]
    exact cPart2 x (by omega)
  rw [pathOk_parts]
  generalize partsBad p = b at *
  generalize partsOf p = l at *
  refine Ctr.enter tblOk func160 rfl (by decide) rfl (nt := 32) rfl rfl rfl rfl ?_
  refine Trip.seq ?_
  apply Trip.reg tblOk
  · repeat' constructor
  · exact rfl
  refine Trip.seq ?_
  apply Trip.reg tblOk
  · repeat' (first | exact rfl | (apply Rule.sem; intro hγ; with_reducible apply F_call0 (x := .func 189) (B := []) hγ (hspec := c1)) | ((with_reducible refine Side.mk ?_); exact .inl rfl) | constructor)
  · exact rfl
  refine Trip.seq ?_
  refine Trip.seq ?_
  apply Trip.reg tblOk
  · repeat' (first | exact rfl | ((with_reducible refine Side.mk ?_); first | exact fun h => h | exact fun _ h => congrArg Bool.not h) | constructor)
  · exact rfl
  apply Trip.cond (.tmp rfl)
  · intro h
    have h : b = true := by rw [hpb]; simpa using h
    subst h
    refine Trip.seq ?_
    apply Trip.reg tblOk
    · repeat' constructor
    · exact rfl
    refine Trip.ret ?_
    apply Ret1 []
    · repeat' (first | exact rfl | constructor)
    · exact rfl
    · repeat' constructor
  intro h
  have h : b = false := by rw [hpb]; simpa using h
  rw [h]
  refine Trip.skip ?_
  refine Trip.seq ?_
  refine Trip.seq ?_
  apply Trip.reg tblOk
  · repeat' constructor
  · exact rfl
  refine Trip.block ?_
  apply Trip.loop (fun (i : Nat) => ⟨[(3, .sl (decide (p = [])) 1 (l.map fun x => sV x)), (4, iV i)], []⟩) (fun (i : Nat) => i ≤ l.length ∧ ∀ j, j < i → partOk l[j]! = true) (fun (i : Nat) => l.length - i) (0)
  · exact ⟨Nat.zero_le _, fun j hj => absurd hj (by omega)⟩
  · apply Weak.keep
    · exact rfl
    · repeat' (first | exact rfl | constructor)
    · repeat' constructor
    · exact rfl
    · repeat' constructor
  intro i hi
  obtain ⟨hi, hj⟩ := hi
  refine Trip.seq ?_
  refine Trip.seq ?_
  apply Trip.reg tblOk
  · repeat' (first | exact rfl | constructor)
  · exact rfl
  apply Trip.cond (.tmp rfl)
  · intro h
    have h : i < l.length := by simp at h; omega
    have cp := cp _ (bang_mem h)
    refine Trip.skip ?_
    refine Trip.seq ?_
    refine Trip.block ?_
    refine Trip.seq ?_
    apply Trip.reg tblOk
    · repeat' (first | exact rfl | (apply Rule.sem; intro hγ; with_reducible apply F_call0 (x := .func 190) (B := []) hγ (hspec := cp)) | exact idx_map _ _ _ (by show _ < _; first | omega | (simp only [List.length_map] at *; omega)) | ((with_reducible refine Side.mk ?_); first | exact .inl rfl | (simp only [ln]; first | done | omega)) | constructor)
    · exact rfl
    apply Trip.cond (.tmp rfl)
    · intro h2
      rw [allS_false h (by simpa using h2)]
      refine Trip.seq ?_
      apply Trip.reg tblOk
      · repeat' constructor
      · exact rfl
      refine Trip.ret ?_
      apply Ret1 []
      · repeat' (first | exact rfl | constructor)
      · exact rfl
      · repeat' constructor
    intro h2
    have h2 : partOk l[i]! = true := by simpa using h2
    refine Trip.skip ?_
    apply Trip.reg tblOk
    · repeat' (first | exact rfl | ((with_reducible refine Side.mk ?_); omega) | constructor)
    · exact rfl
    refine ⟨i + 1, ?_, ?_, ?_⟩
    · exact ⟨by omega, fun j h3 => (Nat.lt_succ_iff_lt_or_eq.1 h3).elim (hj j) (fun e => e ▸ h2)⟩
    · first | omega | (dsimp only at *; omega)
    · apply Weak.keep
      · exact rfl
      · repeat' (first | exact rfl | constructor)
      · repeat' constructor
      · exact rfl
      · repeat' constructor
  intro h
  have h : i = l.length := by simp at h; omega
  subst h
  refine Trip.exit ?_
  rw [allS_true hj]
  refine Trip.seq ?_
  apply Trip.reg tblOk
  · repeat' constructor
  · exact rfl
  refine Trip.ret ?_
  apply Ret1 []
  · repeat' (first | exact rfl | constructor)
  · exact rfl
  · repeat' constructor
end Go.Proofs.Tryz
namespace Go.Graft
open Go.Sym
theorem modeP_eq (m : Nat) (h1 : 1 ≤ m) (h2 : m ≤ 4) : modeP (m : Int) = modeD (m : Int) := by
  obtain rfl | rfl | rfl | rfl : m = 1 ∨ m = 2 ∨ m = 3 ∨ m = 4 := by omega
  all_goals decide
theorem modeD_len (m : Nat) (h1 : 1 ≤ m) (h2 : m ≤ 4) : (modeD (m : Int)).length ≤ 7 := by
  obtain rfl | rfl | rfl | rfl : m = 1 ∨ m = 2 ∨ m = 3 ∨ m = 4 := by omega
  all_goals decide
theorem modeOf_hit {s : Str} {m : Nat} (h1 : 1 ≤ m) (h2 : m ≤ 4) (hj : ∀ j : Nat, 1 ≤ j → j < m → Lib.hasPrefix s (modeD (j : Int)) = false) (h : Lib.hasPrefix s (modeD (m : Int)) = true) : modeOf s = (m : Int) := by
  have g1 : 1 < m → Lib.hasPrefix s (modeD 1) = false := hj 1 (by omega)
  have g2 : 2 < m → Lib.hasPrefix s (modeD 2) = false := hj 2 (by omega)
  have g3 : 3 < m → Lib.hasPrefix s (modeD 3) = false := hj 3 (by omega)
  obtain rfl | rfl | rfl | rfl : m = 1 ∨ m = 2 ∨ m = 3 ∨ m = 4 := by omega
  · have h : Lib.hasPrefix s (modeD 1) = true := h
    rw [modeOf, if_pos h]; rfl
  · have h : Lib.hasPrefix s (modeD 2) = true := h
    rw [modeOf, g1 (by omega), if_pos h]; rfl
  · have h : Lib.hasPrefix s (modeD 3) = true := h
    rw [modeOf, g1 (by omega), g2 (by omega), if_pos h]; rfl
  · have h : Lib.hasPrefix s (modeD 4) = true := h
    rw [modeOf, g1 (by omega), g2 (by omega), g3 (by omega), if_pos h]; rfl
def shortN (s : Str) : Nat → Bool
  | 0 => false
  | i + 1 => shortN s i || Lib.hasPrefix (modeD ((i + 1 : Nat) : Int)) s
theorem modeOf_no {s : Str} (hj : ∀ j : Nat, 1 ≤ j → j < 5 → Lib.hasPrefix s (modeD (j : Int)) = false) : modeOf s = if shortN s 4 = true then -1 else 0 := by
  have g1 : Lib.hasPrefix s (modeD 1) = false := hj 1 (by omega) (by omega)
  have g2 : Lib.hasPrefix s (modeD 2) = false := hj 2 (by omega) (by omega)
  have g3 : Lib.hasPrefix s (modeD 3) = false := hj 3 (by omega) (by omega)
  have g4 : Lib.hasPrefix s (modeD 4) = false := hj 4 (by omega) (by omega)
  rw [modeOf, g1, g2, g3, g4]
  simp only [shortN, Bool.false_or]
  rfl
theorem shortN_true {s : Str} {m : Nat} (h1 : 1 ≤ m) (h2 : m ≤ 4) (h : Lib.hasPrefix (modeD (m : Int)) s = true) : shortN s 4 = true := by
  have : ∀ k, m ≤ k → shortN s k = true := by
    intro k hk
    induction k with
    | zero => omega
    | succ k ih =>
      rw [shortN]
      by_cases e : m = k + 1
      · subst e; rw [h, Bool.or_true]
      · rw [ih (by omega), Bool.true_or]
  exact this 4 h2
theorem shortN_false {s : Str} (hj : ∀ j : Nat, 1 ≤ j → j < 5 → Lib.hasPrefix (modeD (j : Int)) s = false) : shortN s 4 = false := by
  have : ∀ k, k < 5 → shortN s k = false := by
    intro k hk
    induction k with
    | zero => rfl
    | succ k ih => rw [shortN, ih (by omega), hj (k + 1) (by omega) hk]; rfl
  exact this 4 (by omega)
theorem modeOf_cases (s : Str) : modeOf s = -1 ∨ modeOf s = 0 ∨ ∃ m : Nat, 1 ≤ m ∧ m ≤ 4 ∧ modeOf s = (m : Int) ∧ Lib.hasPrefix s (modeD (m : Int)) = true := by
  rw [modeOf]
  split
  · rename_i h; exact .inr (.inr ⟨1, by omega, by omega, rfl, h⟩)
  split
  · rename_i h; exact .inr (.inr ⟨2, by omega, by omega, rfl, h⟩)
  split
  · rename_i h; exact .inr (.inr ⟨3, by omega, by omega, rfl, h⟩)
  split
  · rename_i h; exact .inr (.inr ⟨4, by omega, by omega, rfl, h⟩)
  split
  · exact .inl rfl
  · exact .inr (.inl rfl)
theorem prefix_len {s p : Str} (h : Lib.hasPrefix s p = true) : p.length ≤ s.length := by
  rw [Lib.hasPrefix, List.isPrefixOf_iff_prefix] at h
  exact h.length_le
theorem begins_eq (s t : Str) : (decide ((t.length : Int) ≤ (s.length : Int)) && decide (s.take t.length = t)) = Lib.hasPrefix s t := by
  rw [Bool.eq_iff_iff]
  simp only [Bool.and_eq_true, decide_eq_true_eq, Lib.hasPrefix, List.isPrefixOf_iff_prefix]
  constructor
  · intro h; rw [← h.2]; exact List.take_prefix _ _
  · intro h; exact ⟨by have := h.length_le; omega, (List.prefix_iff_eq_take.1 h).symm⟩
def modeR (s : Str) : Str := if 1 ≤ modeOf s then s.drop (modeD (modeOf s)).length else []
def modeE (s : Str) : Int := if modeOf s = -1 then 3 else if modeOf s = 0 then 2 else 0
theorem modeR_len (s : Str) : (modeR s).length ≤ s.length := by
  rw [modeR]; split <;> simp
theorem oneE_mode {s : Str} (h : modeE s ≠ 0) : (oneE s).1 = modeE s := by
  rw [modeE] at h ⊢
  rw [oneE]
  by_cases h1 : modeOf s = -1
  · rw [if_pos h1, if_pos h1]
  · rw [if_neg h1, if_neg h1] at *
    by_cases h2 : modeOf s = 0
    · rw [if_pos h2, if_pos h2]
    · rw [if_neg h2] at h; exact absurd rfl h
theorem modeE_ok {s : Str} (h : modeE s = 0) : ∃ m : Nat, 1 ≤ m ∧ m ≤ 4 ∧ modeOf s = (m : Int) ∧ modeR s = s.drop (modeD (m : Int)).length ∧ (modeD (m : Int)).length ≤ s.length := by
  rcases modeOf_cases s with h1 | h1 | ⟨m, h1, h2, h3, h4⟩
  · rw [modeE, if_pos h1] at h; simp at h
  · rw [modeE, if_neg (by omega), if_pos h1] at h; simp at h
  · exact ⟨m, h1, h2, h3, by rw [modeR, h3, if_pos (by omega)], prefix_len h4⟩
theorem cut_byte (r : Str) (c : UInt8) : Lib.cut r [c] = if 0 ≤ Lib.indexByte r c then (r.take (Lib.indexByte r c).toNat, r.drop ((Lib.indexByte r c).toNat + 1), true) else (r, [], false) := by
  rw [Lib.cut, index_one]; rfl
def cutBad (r : Str) : Bool := !(Lib.cut r [0]).2.2 || decide (((Lib.cut r [0]).2.1.length : Int) < 20)
theorem oneE_cut {s : Str} (h : modeE s = 0) : (oneE s).1 = (if cutBad (modeR s) = true then 3 else 0) ∧ (cutBad (modeR s) = false → (oneE s).2.1 = ⟨modeOf s, (Lib.cut (modeR s) [0]).1, hexOf ((Lib.cut (modeR s) [0]).2.1.take 20)⟩ ∧ (oneE s).2.2 = (Lib.cut (modeR s) [0]).2.1.drop 20 ∧ 20 ≤ (Lib.cut (modeR s) [0]).2.1.length) := by
  obtain ⟨m, h1, h2, h3, h4, h5⟩ := modeE_ok h
  rw [oneE, if_neg (by omega), if_neg (by omega), h3]
  simp only []
  rw [← h4, cutBad]
  generalize modeR s = r
  have hge := Lib.indexByte_ge r 0
  by_cases hk : Lib.indexByte r 0 < 0
  · have hc : Lib.cut r [0] = (r, [], false) := by rw [cut_byte, if_neg (by omega)]
    rw [hc, if_pos hk]
    exact ⟨rfl, fun h => by simp at h⟩
  · have hc : Lib.cut r [0] = (r.take (Lib.indexByte r 0).toNat, r.drop ((Lib.indexByte r 0).toNat + 1), true) := by rw [cut_byte, if_pos (by omega)]
    rw [hc, if_neg hk]
    simp only [Bool.not_true, Bool.false_or, decide_eq_true_eq, decide_eq_false_iff_not, List.length_drop]
    by_cases hl : r.length < (Lib.indexByte r 0).toNat + 21
    · rw [if_pos hl, if_pos (by omega)]
      exact ⟨rfl, fun h => by omega⟩
    · rw [if_neg hl, if_neg (by omega)]
      refine ⟨rfl, fun h => ⟨rfl, ?_, by omega⟩⟩
      rw [List.drop_drop]
def oneN (s : Str) : Nat := if (oneE s).1 = 0 then s.length - (oneE s).2.2.length else 0
def findBad (s : Str) : Bool := decide (findB s 0 (modeD (modeOf s)).length < 0) || decide ((s.length : Int) - findB s 0 (modeD (modeOf s)).length < 21)
theorem oneE_find {s : Str} (h : modeE s = 0) : (oneE s).1 = (if findBad s = true then 3 else 0) ∧ (findBad s = false → ∃ e : Nat, findB s 0 (modeD (modeOf s)).length = (e : Int) ∧ e + 21 ≤ s.length ∧ (modeD (modeOf s)).length ≤ e ∧ (oneE s).2.1 = ⟨modeOf s, (s.take e).drop (modeD (modeOf s)).length, hexOf ((s.take (e + 21)).drop (e + 1))⟩ ∧ (oneE s).2.2 = s.drop (e + 21) ∧ oneN s = e + 21) := by
  obtain ⟨m, h1, h2, h3, h4, h5⟩ := modeE_ok h
  have key : ∀ n : Nat, (modeD (modeOf s)).length = n → n ≤ s.length → (oneE s).1 = (if findBad s = true then 3 else 0) ∧ (findBad s = false → ∃ e : Nat, findB s 0 n = (e : Int) ∧ e + 21 ≤ s.length ∧ n ≤ e ∧ (oneE s).2.1 = ⟨modeOf s, (s.take e).drop n, hexOf ((s.take (e + 21)).drop (e + 1))⟩ ∧ (oneE s).2.2 = s.drop (e + 21) ∧ oneN s = e + 21) := by
    intro n hn hle
    rw [oneN, oneE, if_neg (by omega), if_neg (by omega), findBad, hn, findB]
    simp only []
    have hge := Lib.indexByte_ge (s.drop n) 0
    have hl0 : (s.drop n).length = s.length - n := List.length_drop
    by_cases hk : Lib.indexByte (s.drop n) 0 < 0
    · rw [if_pos hk, if_pos hk]
      exact ⟨rfl, fun h => by simp at h⟩
    · rw [if_neg hk, if_neg hk]
      generalize hkk : (Lib.indexByte (s.drop n) 0).toNat = k
      have hk2 : Lib.indexByte (s.drop n) 0 = (k : Int) := by omega
      rw [hk2, hl0]
      by_cases hl : s.length - n < k + 21
      · rw [if_pos hl]
        have : (decide ((n : Int) + (k : Int) < 0) || decide ((s.length : Int) - ((n : Int) + (k : Int)) < 21)) = true := by
          rw [Bool.or_eq_true]; exact .inr (decide_eq_true (by omega))
        rw [this]
        exact ⟨rfl, fun h => by simp at h⟩
      · rw [if_neg hl]
        have : (decide ((n : Int) + (k : Int) < 0) || decide ((s.length : Int) - ((n : Int) + (k : Int)) < 21)) = false := by
          rw [Bool.or_eq_false_iff]; exact ⟨decide_eq_false (by omega), decide_eq_false (by omega)⟩
        rw [this]
        refine ⟨rfl, fun _ => ⟨n + k, by omega, by omega, by omega, ?_, ?_, ?_⟩⟩
        · simp only [En.mk.injEq, true_and]
          refine ⟨?_, ?_⟩
          · rw [List.drop_take, Nat.add_sub_cancel_left]
          · rw [List.drop_take, List.drop_drop, show n + k + 21 - (n + k + 1) = 20 by omega, show n + (k + 1) = n + k + 1 by omega]
        · show (s.drop n).drop (k + 21) = s.drop (n + k + 21)
          rw [List.drop_drop, show n + (k + 21) = n + k + 21 by omega]
        · rw [if_pos rfl, List.length_drop, hl0]; omega
  exact key _ rfl (by rw [h3]; exact h5)
def cntN (l : List Str) : Nat → List Str × List Int
  | 0 => ([], [])
  | i + 1 => (mkeys (cntN l i).1 l[i]!, mset (cntN l i).1 (cntN l i).2 l[i]! (mval (cntN l i).1 (cntN l i).2 0 l[i]! + 1))
theorem cntN_len (l : List Str) : ∀ i, (cntN l i).1.length = (cntN l i).2.length
  | 0 => rfl
  | i + 1 => mkeys_length _ _ _ _ (cntN_len l i)
theorem cntN_val (l : List Str) (y : Str) : ∀ i, i ≤ l.length → mval (cntN l i).1 (cntN l i).2 0 y = (((l.take i).count y : Nat) : Int)
  | 0, _ => by simp [cntN, mval, kidx]
  | i + 1, h => by
    have ih := cntN_val l y i (by omega)
    rw [cntN]
    simp only []
    rw [mval_mset _ _ _ _ _ _ (cntN_len l i), take_snoc l i (by omega), List.count_append]
    by_cases e : l[i]! = y
    · subst e
      rw [if_pos rfl, ih]
      simp
    · rw [if_neg e, ih]
      have : [l[i]!].count y = 0 := by rw [List.count_eq_zero, List.mem_singleton]; exact fun h => e h.symm
      rw [this]; rfl
theorem cntN_dup (l : List Str) (i : Nat) (h : i < l.length) : decide (1 < mval (cntN l (i + 1)).1 (cntN l (i + 1)).2 0 l[i]!) = hasS (l.take i) l[i]! := by
  rw [cntN_val l _ (i + 1) (by omega), take_snoc l i h, List.count_append, hasS]
  refine decide_eq_decide.2 ?_
  have : [l[i]!].count l[i]! = 1 := by simp
  rw [this, ← List.count_pos_iff]
  omega
def entBad2 (l : List En) (i : Nat) : Bool := decide (0 < (i : Int)) && !Op.bytesLess l[i - 1]!.key l[i]!.key
theorem entE_may {l : List En} {i : Nat} (h : mayE l[i]! = false) : entE l i = 1 := by rw [entE, if_pos h]
theorem entE_sort {l : List En} {i : Nat} (h : mayE l[i]! = true) (h2 : entBad2 l i = true) : entE l i = 150 := by
  rw [entE, if_neg (by rw [h]; simp), if_pos]
  simp only [entBad2, Bool.and_eq_true, decide_eq_true_eq, Bool.not_eq_true'] at h2
  exact ⟨by omega, h2.2⟩
theorem entE_dup {l : List En} {i : Nat} (h : mayE l[i]! = true) (h2 : entBad2 l i = false) : entE l i = if hasS ((l.take i).map En.name) l[i]!.name = true then 6 else 0 := by
  rw [entE, if_neg (by rw [h]; simp), if_neg]
  intro h3
  have : entBad2 l i = true := by
    simp only [entBad2, Bool.and_eq_true, decide_eq_true_eq, Bool.not_eq_true']
    exact ⟨by omega, h3.2⟩
  rw [this] at h2; simp at h2
theorem checkE_stop {l : List En} {i : Nat} {e : Int} (hl : l.length ≤ 1024) (h : i < l.length) (hj : ∀ j, j < i → entE l j = 0) (he : entE l i = e) (h0 : e ≠ 0) : checkE l = e := by
  rw [checkE, if_neg (by omega), firstE_stop h hj (by rw [he]; exact h0), he]
theorem checkE_ok {l : List En} (hl : l.length ≤ 1024) (hj : ∀ j, j < l.length → entE l j = 0) : checkE l = 0 := by
  rw [checkE, if_neg (by omega), firstE_zero hj]
theorem map_bang {α β : Type} [Inhabited α] [Inhabited β] (f : α → β) (l : List α) (i : Nat) (h : i < l.length) : (l.map f)[i]! = f l[i]! := by
  rw [getElem!_pos _ i (by simpa using h), getElem!_pos l i h, List.getElem_map]
end Go.Graft
namespace Go.Proofs.Tryz
open Go Go.Sym
theorem zInt : ∀ w, (zeroValue 3).run Tryz.prog w = .ok (.int .i64 0) w := fun w => by kernel_rfl
theorem zBool : ∀ w, (zeroValue 4).run Tryz.prog w = .ok (.bool false) w := fun w => by kernel_rfl
end Go.Proofs.Tryz
