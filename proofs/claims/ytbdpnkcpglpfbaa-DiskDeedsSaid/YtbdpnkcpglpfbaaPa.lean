/- The plain laws of the disk: crashes. -/
import Derived.Test.YtbdpnkcpglpfbaaTw
namespace Go.Proofs.Try
open Go Go.Sym

/-- What a crash leaves of a file. -/
structure Cr (f g : File) : Prop where
  name : g.name = f.name
  sure : g.synced = g.data.length
  part : ∃ p : Nat, f.synced ≤ p ∧ p ≤ f.data.length ∧ g.data = f.data.take p

theorem getL {α : Type} [Inhabited α] (a b : List α) (j : Nat) (h : j < a.length) : (a ++ b)[j]! = a[j]! := by
  rw [getElem!_pos (a ++ b) j (by rw [List.length_append]; omega), getElem!_pos a j h, List.getElem_append_left h]
theorem getR {α : Type} [Inhabited α] (a : List α) (x : α) (j : Nat) (h : j = a.length) : (a ++ [x])[j]! = x := by
  subst h
  rw [getElem!_pos (a ++ [x]) a.length (by simp), List.getElem_append_right (Nat.le_refl _)]
  simp

theorem crStep_cr (keep : List Int) (s : Nat × List File) (f : File) (h0 : 0 ≤ f.synced) (h1 : f.synced ≤ f.data.length) : ∃ g, (crStep keep s f).2 = s.2 ++ [g] ∧ Cr f g := by
  simp only [crStep]
  by_cases h : 0 < (f.data.length : Int) - f.synced
  · rw [if_pos h]
    have hb := crM_bd keep s.1 _ h
    generalize crM keep s.1 ((f.data.length : Int) - f.synced) = m at *
    refine ⟨_, rfl, rfl, rfl, (f.synced + m).toNat, by omega, by omega, rfl⟩
  · rw [if_neg h]
    exact ⟨_, rfl, rfl, rfl, f.data.length, by omega, Nat.le_refl _, by simp⟩

theorem crN_cr (keep : List Int) (fs : List File) : ∀ i, (∀ j, j < i → okAt fs j = true) → ∀ j, j < i → Cr fs[j]! ((crN keep fs i).2[j]!)
  | 0, _, j, hj => by omega
  | i + 1, hok, j, hj => by
    obtain ⟨k0, k1, _⟩ := okAt_bd (hok i (by omega))
    obtain ⟨g, hg, hc⟩ := crStep_cr keep (crN keep fs i) fs[i]! k0 k1
    have hl := (crN_bd keep fs i).2
    have e : (crN keep fs (i + 1)).2 = (crN keep fs i).2 ++ [g] := hg
    rw [e]
    by_cases h : j = i
    · subst h; rw [getR _ _ _ hl.symm]; exact hc
    · rw [getL _ _ _ (by omega)]
      exact crN_cr keep fs i (fun j hj => hok j (by omega)) j (by omega)

theorem take_len {l : List UInt8} {p : Nat} (h : p ≤ l.length) : (l.take p).length = p := by rw [List.length_take]; omega

theorem Cr.ok {f g : File} (h : Cr f g) (h4 : f.data.length ≤ 4194304) : 0 ≤ g.synced ∧ g.synced = g.data.length ∧ g.data.length ≤ 4194304 := by
  obtain ⟨p, h1, h2, h3⟩ := h.part
  have := h.sure
  have hl : g.data.length = p := by rw [h3, take_len h2]
  omega

theorem crash_okAt (keep : List Int) (fs : List File) (hok : ∀ j, j < fs.length → okAt fs j = true) (j : Nat) (hj : j < fs.length) : okAt (crN keep fs fs.length).2 j = true := by
  have h := crN_cr keep fs fs.length hok
  generalize (crN keep fs fs.length).2 = out at *
  have hj2 := hok j hj
  have hb := (h j hj).ok (okAt_bd hj2).2.2
  simp only [okAt, Bool.and_eq_true, Bool.not_eq_true', decide_eq_false_iff_not] at hj2 ⊢
  obtain ⟨⟨⟨a, _⟩, _⟩, _⟩ := hj2
  refine ⟨⟨⟨?_, by omega⟩, by omega⟩, by omega⟩
  rw [← a]
  simp only [nameAt, nameB, (h j hj).name]
  by_cases h0 : 0 < (j : Int)
  · have e : ((j : Int) - 1).toNat = j - 1 := by omega
    rw [e, (h (j - 1) (by omega)).name]
  · have e : decide (0 < (j : Int)) = false := by simp only [decide_eq_false_iff_not]; exact h0
    rw [e]; simp

theorem crash_right (d : Disk) (keep : List Int) (left : Int) : right (crash d keep left).fs (crash d keep left).left (crash d keep left).off = true := by
  simp only [crash]
  by_cases h : right d.fs d.left d.off = true
  · rw [if_pos h]
    dsimp only
    have hl := (crN_bd keep d.fs d.fs.length).2
    have hok := right_ok h
    simp only [right, Bool.and_eq_true, decide_eq_true_eq] at h ⊢
    refine ⟨⟨⟨by omega, by omega⟩, trivial⟩, (allUpto_iff _ _).2 fun j hj => crash_okAt keep d.fs hok j (by omega)⟩
  · rw [if_neg h]
    dsimp only
    simp only [right, Bool.and_eq_true, decide_eq_true_eq]
    exact ⟨⟨⟨by simp, by omega⟩, trivial⟩, rfl⟩

/-- A crash of what a crash has left. -/
theorem crN_again (keep : List Int) (out : List File) : ∀ i, i ≤ out.length → (∀ j, j < i → (out[j]!).synced = (out[j]!).data.length) → crN keep out i = (0, out.take i)
  | 0, _, _ => by simp [crN]
  | i + 1, hi, hs => by
    have h0 := hs i (by omega)
    rw [crN, crN_again keep out i (by omega) (fun j hj => hs j (by omega)), take_snoc out i (by omega)]
    simp only [crStep]
    rw [if_neg (by omega)]
    generalize out[i]! = f at *
    obtain ⟨a, b, c⟩ := f
    dsimp only at h0 ⊢
    rw [h0]

theorem crash_again (d : Disk) (keep : List Int) (h : right d.fs d.left d.off = true) :
    (crash (crash d keep (-1)) keep (-1)).fs = (crash d keep (-1)).fs ∧ (crash (crash d keep (-1)) keep (-1)).left = (crash d keep (-1)).left ∧ (crash (crash d keep (-1)) keep (-1)).off = (crash d keep (-1)).off := by
  have hc := crash_right d keep (-1)
  have hok := right_ok h
  have hcr := crN_cr keep d.fs d.fs.length hok
  have hl := (crN_bd keep d.fs d.fs.length).2
  have e : crash d keep (-1) = ⟨(crN keep d.fs d.fs.length).2.isEmpty, (crN keep d.fs d.fs.length).2, max (-1) (-1), decide (max (-1) (-1) = 0)⟩ := by
    simp only [crash, if_pos h]
  rw [e] at hc ⊢
  generalize (crN keep d.fs d.fs.length).2 = out at *
  dsimp only at hc ⊢
  simp only [crash]
  rw [if_pos hc]
  dsimp only
  rw [crN_again keep out out.length (Nat.le_refl _) (fun j hj => (hcr j (by omega)).sure), List.take_length]
  exact ⟨rfl, rfl, rfl⟩
end Go.Proofs.Try
