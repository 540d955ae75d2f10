/- The plain laws of the disk: every deed keeps a disk right, and the two texts do the same. -/
import Derived.Test.YtbdpnkcpglpfbaaPa
namespace Go.Sym
theorem bless_irrefl : ∀ a : List UInt8, Op.bytesLess a a = false
  | [] => rfl
  | a :: x => by
    have : ¬ a < a := fun h => by have := UInt8.lt_iff_toNat_lt.1 h; omega
    simp [Op.bytesLess, this, bless_irrefl x]
theorem bless_trans : ∀ {a b c : List UInt8}, Op.bytesLess a b = true → Op.bytesLess b c = true → Op.bytesLess a c = true
  | [], [], _, h, _ => by simp [Op.bytesLess] at h
  | [], _ :: _, [], _, k => by simp [Op.bytesLess] at k
  | [], _ :: _, _ :: _, _, _ => by simp [Op.bytesLess]
  | _ :: _, [], _, h, _ => by simp [Op.bytesLess] at h
  | _ :: _, _ :: _, [], _, k => by simp [Op.bytesLess] at k
  | a :: x, b :: y, c :: z, h, k => by
    simp only [Op.bytesLess, Bool.or_eq_true, decide_eq_true_eq, Bool.and_eq_true, beq_iff_eq, UInt8.lt_iff_toNat_lt, ← UInt8.toNat_inj] at h k ⊢
    rcases h with h | ⟨h1, h2⟩
    · rcases k with k | ⟨k1, k2⟩
      · exact .inl (by omega)
      · exact .inl (by omega)
    · rcases k with k | ⟨k1, k2⟩
      · exact .inl (by omega)
      · exact .inr ⟨by omega, bless_trans h2 k2⟩
theorem bless_asymm {a b : List UInt8} (h : Op.bytesLess a b = true) : Op.bytesLess b a = false := by
  cases k : Op.bytesLess b a with
  | false => rfl
  | true => have := bless_trans h k; rw [bless_irrefl] at this; exact this.symm
theorem bless_ne {a b : List UInt8} (h : Op.bytesLess a b = false) (hn : a ≠ b) : Op.bytesLess b a = true := by
  have := bytesLess_total a b
  rw [h, decide_eq_false hn] at this
  simpa using this.symm
end Go.Sym
namespace Go.Proofs.Try
open Go Go.Sym

structure FOk (f : File) : Prop where
  name : named f.name = true
  s0 : 0 ≤ f.synced
  s1 : f.synced ≤ f.data.length
  len : f.data.length ≤ 4194304
abbrev lt (f g : File) : Prop := Op.bytesLess f.name g.name = true
structure Rt (fs : List File) (left : Int) (off : Bool) : Prop where
  size : fs.length ≤ 65536
  low : -1 ≤ left
  off : off = decide (left = 0)
  srt : fs.Pairwise lt
  ok : ∀ f ∈ fs, FOk f

theorem srt_iff (fs : List File) : (∀ i, i + 1 < fs.length → lt fs[i]! fs[i + 1]!) ↔ fs.Pairwise lt := by
  rw [List.pairwise_iff_getElem]
  constructor
  · intro h
    have key : ∀ d i, i + d + 1 < fs.length → lt fs[i]! fs[i + d + 1]! := by
      intro d
      induction d with
      | zero => intro i hi; exact h i hi
      | succ d ih => intro i hi; exact bless_trans (ih i (by omega)) (h (i + d + 1) (by omega))
    intro i j hi hj hij
    have := key (j - i - 1) i (by omega)
    rw [show i + (j - i - 1) + 1 = j by omega] at this
    rwa [getElem!_pos fs i hi, getElem!_pos fs j hj] at this
  · intro h i hi
    have := h i (i + 1) (by omega) hi (by omega)
    rwa [getElem!_pos fs i (by omega), getElem!_pos fs (i + 1) hi]

theorem okAt_iff (fs : List File) (i : Nat) : okAt fs i = true ↔ FOk fs[i]! ∧ (0 < i → lt fs[i - 1]! fs[i]!) := by
  have e : ((i : Int) - 1).toNat = i - 1 := by omega
  simp only [okAt, nameAt, nameB, e, Bool.and_eq_true, Bool.not_eq_true', Bool.or_eq_false_iff, Bool.not_eq_false', decide_eq_false_iff_not, Bool.and_eq_false_iff]
  constructor
  · rintro ⟨⟨⟨⟨h1, h2⟩, h3⟩, h4⟩, h5⟩
    exact ⟨⟨h1, by omega, by omega, by omega⟩, fun h => by rcases h2 with h2 | h2; exact absurd (by omega) h2; exact h2⟩
  · rintro ⟨⟨h1, h2, h3, h4⟩, h5⟩
    refine ⟨⟨⟨⟨h1, ?_⟩, by omega⟩, by omega⟩, by omega⟩
    rcases Nat.eq_zero_or_pos i with h | h
    · exact .inl (by omega)
    · exact .inr (h5 h)

theorem right_iff (fs : List File) (left : Int) (off : Bool) : right fs left off = true ↔ Rt fs left off := by
  simp only [right, Bool.and_eq_true, decide_eq_true_eq, allUpto_iff, okAt_iff]
  constructor
  · rintro ⟨⟨⟨h1, h2⟩, h3⟩, h4⟩
    refine ⟨by omega, h2, h3, (srt_iff fs).1 fun i hi => (h4 (i + 1) hi).2 (by omega), fun f hf => ?_⟩
    obtain ⟨i, hi, rfl⟩ := List.getElem_of_mem hf
    rw [← getElem!_pos fs i hi]; exact (h4 i hi).1
  · rintro ⟨h1, h2, h3, h4, h5⟩
    refine ⟨⟨⟨by omega, h2⟩, h3⟩, fun i hi => ⟨h5 _ (by rw [getElem!_pos fs i hi]; exact List.getElem_mem _), fun h0 => ?_⟩⟩
    have := (srt_iff fs).2 h4 (i - 1) (by omega)
    rwa [show i - 1 + 1 = i by omega] at this

theorem bs_spec (p : Nat → Bool) : ∀ n lo hi, hi - lo = n → lo ≤ hi → (∀ i j, i ≤ j → j < hi → p i = true → p j = true) →
    lo ≤ bs p lo hi ∧ bs p lo hi ≤ hi ∧ (∀ j, lo ≤ j → j < bs p lo hi → p j = false) ∧ (∀ j, bs p lo hi ≤ j → j < hi → p j = true) := by
  intro n
  induction n using Nat.strongRecOn with
  | _ n ih =>
    intro lo hi hn hle hm
    rw [bs.eq_def]
    by_cases h : lo < hi
    · rw [dif_pos h]
      by_cases hp : p ((lo + hi) / 2) = true
      · rw [if_pos hp]
        obtain ⟨h1, h2, h3, h4⟩ := ih _ (by omega) lo ((lo + hi) / 2) rfl (by omega) (fun i j hij hj => hm i j hij (by omega))
        refine ⟨h1, by omega, h3, fun j hj hj2 => ?_⟩
        rcases Nat.lt_or_ge j ((lo + hi) / 2) with h5 | h5
        · exact h4 j hj h5
        · exact hm _ _ h5 hj2 hp
      · rw [if_neg hp]
        obtain ⟨h1, h2, h3, h4⟩ := ih _ (by omega) ((lo + hi) / 2 + 1) hi rfl (by omega) hm
        refine ⟨by omega, h2, fun j hj hj2 => ?_, h4⟩
        rcases Nat.lt_or_ge ((lo + hi) / 2) j with h5 | h5
        · exact h3 j (by omega) hj2
        · cases hq : p j with
          | false => rfl
          | true => exact absurd (hm _ _ h5 (by omega) hq) hp
    · rw [dif_neg h]
      exact ⟨Nat.le_refl _, hle, fun j _ _ => by omega, fun j _ _ => by omega⟩

/-- Where a name stands in a right disk. -/
theorem pos_spec {fs : List File} (hs : fs.Pairwise lt) (name : List UInt8) : pos fs name ≤ fs.length ∧ (∀ f ∈ fs.take (pos fs name), Op.bytesLess f.name name = true) ∧ (∀ f ∈ fs.drop (pos fs name), Op.bytesLess f.name name = false) := by
  have hp := List.pairwise_iff_getElem.1 hs
  obtain ⟨_, h2, h3, h4⟩ := bs_spec (fun i => !Op.bytesLess (fs[i]!).name name) fs.length 0 fs.length (by omega) (by omega) (fun i j hij hj h => by
    simp only [Bool.not_eq_true'] at h ⊢
    rcases Nat.lt_or_eq_of_le hij with hlt | rfl
    · cases hc : Op.bytesLess (fs[j]!).name name with
      | false => rfl
      | true =>
        have := hp i j (by omega) hj hlt
        rw [← getElem!_pos fs i (by omega), ← getElem!_pos fs j hj] at this
        have := bless_trans this hc
        rw [h] at this; exact this.symm
    · exact h)
  refine ⟨h2, fun f hf => ?_, fun f hf => ?_⟩
  · obtain ⟨j, hj, rfl⟩ := List.getElem_of_mem hf
    rw [List.length_take] at hj
    rw [List.getElem_take]
    have := h3 j (by omega) (by show _ < pos fs name; omega)
    rw [getElem!_pos fs j (by omega)] at this
    simpa using this
  · obtain ⟨j, hj, rfl⟩ := List.getElem_of_mem hf
    rw [List.length_drop] at hj
    rw [List.getElem_drop]
    have := h4 (pos fs name + j) (by show pos fs name ≤ _; omega) (by omega)
    rw [getElem!_pos fs (pos fs name + j) (by omega)] at this
    simpa using this

theorem isAt_iff {fs : List File} {k : Nat} {name : List UInt8} : isAt fs k name = true ↔ k < fs.length ∧ (fs[k]!).name = name := by
  simp only [isAt, Bool.and_eq_true, decide_eq_true_eq]
  constructor
  · rintro ⟨h1, h2⟩; exact ⟨by omega, h2⟩
  · rintro ⟨h1, h2⟩; exact ⟨by omega, h2⟩

theorem drop_at (fs : List File) (k : Nat) (h : k < fs.length) : fs.drop k = fs[k]! :: fs.drop (k + 1) := by
  rw [getElem!_pos fs k h]; exact List.drop_eq_getElem_cons h

theorem put_rt {fs : List File} {f : File} (hs : fs.Pairwise lt) (hok : ∀ f ∈ fs, FOk f) (hf : FOk f) :
    (put fs (pos fs f.name) (isAt fs (pos fs f.name) f.name) f).Pairwise lt ∧ (∀ g ∈ put fs (pos fs f.name) (isAt fs (pos fs f.name) f.name) f, FOk g) ∧
    (put fs (pos fs f.name) (isAt fs (pos fs f.name) f.name) f).length = if isAt fs (pos fs f.name) f.name then fs.length else fs.length + 1 := by
  obtain ⟨h1, h2, h3⟩ := pos_spec hs f.name
  generalize pos fs f.name = k at *
  cases his : isAt fs k f.name with
  | true =>
    obtain ⟨k1, k2⟩ := isAt_iff.1 his
    rw [put_true fs k f k1]
    have hd := drop_at fs k k1
    have hsp : (fs.take k ++ fs[k]! :: fs.drop (k + 1)).Pairwise lt := by rw [← hd, List.take_append_drop]; exact hs
    rw [List.pairwise_append] at hsp ⊢
    obtain ⟨p1, p2, p3⟩ := hsp
    rw [List.pairwise_cons] at p2
    refine ⟨⟨p1, List.pairwise_cons.2 ⟨fun g hg => ?_, p2.2⟩, fun g hg g' hg' => ?_⟩, fun g hg => ?_, ?_⟩
    · have := p2.1 g hg; unfold lt at this ⊢; rwa [k2] at this
    · rcases List.mem_cons.1 hg' with rfl | hg'
      · exact h2 g hg
      · exact p3 g hg g' (List.mem_cons_of_mem _ hg')
    · rcases List.mem_append.1 hg with hg | hg
      · exact hok g (List.mem_of_mem_take hg)
      · rcases List.mem_cons.1 hg with rfl | hg
        · exact hf
        · exact hok g (List.mem_of_mem_drop hg)
    · simp only [List.length_append, List.length_take, List.length_cons, List.length_drop, if_true]; omega
  | false =>
    have e : put fs k false f = fs.take k ++ f :: fs.drop k := rfl
    rw [e]
    have hsp : (fs.take k ++ fs.drop k).Pairwise lt := by rw [List.take_append_drop]; exact hs
    rw [List.pairwise_append] at hsp ⊢
    obtain ⟨p1, p2, p3⟩ := hsp
    refine ⟨⟨p1, List.pairwise_cons.2 ⟨fun g hg => ?_, p2⟩, fun g hg g' hg' => ?_⟩, fun g hg => ?_, ?_⟩
    · have hlt := h3 g hg
      refine bless_ne hlt ?_
      rintro he
      have hk : k < fs.length := by
        rcases Nat.lt_or_ge k fs.length with h | h
        · exact h
        · rw [List.drop_eq_nil_of_le h] at hg; simp at hg
      rw [drop_at fs k hk] at hg p2 h3
      have hk2 := h3 fs[k]! (by simp)
      rcases List.mem_cons.1 hg with rfl | hg2
      · rw [isAt_iff.2 ⟨hk, he⟩] at his; exact absurd his (by simp)
      · have := (List.pairwise_cons.1 p2).1 g hg2
        unfold lt at this
        rw [he, hk2] at this
        exact absurd this (by simp)
    · rcases List.mem_cons.1 hg' with rfl | hg'
      · exact h2 g hg
      · exact p3 g hg g' hg'
    · rcases List.mem_append.1 hg with hg | hg
      · exact hok g (List.mem_of_mem_take hg)
      · rcases List.mem_cons.1 hg with rfl | hg
        · exact hf
        · exact hok g (List.mem_of_mem_drop hg)
    · simp only [List.length_append, List.length_take, List.length_cons, List.length_drop]
      rw [if_neg (by simp)]; omega

theorem without_rt {fs : List File} (hs : fs.Pairwise lt) (hok : ∀ f ∈ fs, FOk f) (k : Nat) : (without fs k).Pairwise lt ∧ ∀ g ∈ without fs k, FOk g := by
  have hsub : (without fs k).Sublist fs := by
    have h1 : (fs.drop (k + 1)).Sublist (fs.drop k) := by
      rw [← List.drop_drop]; exact List.drop_sublist _ _
    have := List.Sublist.append (List.Sublist.refl (fs.take k)) h1
    rwa [List.take_append_drop] at this
  exact ⟨hs.sublist hsub, fun g hg => hok g (hsub.mem hg)⟩

theorem dec_ge {left : Int} (h : -1 ≤ left) : -1 ≤ dec left := by simp only [dec]; split <;> omega

/-- What two texts shall agree on. -/
structure Agree (d : Disk) (t u : Disk × Int) : Prop where
  fs : t.1.fs = u.1.fs
  left : t.1.left = u.1.left
  off : t.1.off = u.1.off
  code : t.2 = u.2
  rt : Rt u.1.fs u.1.left u.1.off
  bad : t.2 ≠ 0 → t.1.fs = d.fs ∧ t.1.left = d.left ∧ t.1.off = d.off
  nl : (d.nl = true → d.fs = []) → t.1.nl = true → t.1.fs = []
  size : t.1.fs.length ≤ d.fs.length + 1
  top : d.left ≤ 9223372036854775807 → t.1.left ≤ 9223372036854775807

theorem Agree.same {d : Disk} (h : Rt d.fs d.left d.off) (e : Int) : Agree d (d, e) (d, e) :=
  ⟨rfl, rfl, rfl, rfl, h, fun _ => ⟨rfl, rfl, rfl⟩, fun h => h, by dsimp only; omega, fun h => h⟩

theorem dec_le {left : Int} : dec left ≤ left := by simp only [dec]; split <;> omega
theorem off_done {left : Int} (h : left ≠ 0) : (decide (0 < left) && decide (left - 1 = 0)) = decide (dec left = 0) := by
  by_cases h0 : 0 < left
  · have e : dec left = left - 1 := by simp only [dec, if_pos h0]
    rw [decide_eq_true h0, Bool.true_and, e]
  · have e : dec left = left := by simp only [dec, if_neg h0]
    rw [decide_eq_false h0, Bool.false_and, e]
    exact (decide_eq_false h).symm

theorem Agree.put {d : Disk} (h : Rt d.fs d.left d.off) (ho : d.off = false) (fs : List File) (hs : fs.Pairwise lt) (hok : ∀ f ∈ fs, FOk f) (hl : fs.length ≤ 65536) (hl2 : fs.length ≤ d.fs.length + 1) :
    Agree d (d.done false fs, 0) (Disk.done2 ⟨false, fs, d.left, d.off⟩, 0) := by
  have hoff := h.off
  rw [ho] at hoff
  have hne : d.left ≠ 0 := by simpa using hoff.symm
  refine ⟨rfl, rfl, off_done hne, rfl, ⟨hl, dec_ge h.low, rfl, hs, hok⟩, fun h => absurd rfl h, fun _ h => by simp [Disk.done] at h, hl2, fun h => Int.le_trans dec_le h⟩

theorem getMem {α : Type} [Inhabited α] {l : List α} {i : Nat} (h : i < l.length) : l[i]! ∈ l := by rw [getElem!_pos l i h]; exact List.getElem_mem _
theorem named_imp {name : List UInt8} (h : ¬ (!named name) = true) : named name = true := by simpa using h

theorem agree_wr {d : Disk} (h : Rt d.fs d.left d.off) (name data : List UInt8) (add : Bool) :
    Agree d (wr d name data add) (if add then rappend d name data else rput d name data) := by
  have e : (if add then rappend d name data else rput d name data) = if d.off then (d, 9) else if !named name then (d, 1) else lay2 d name (newFile d name data add).data (newFile d name data add).synced := by
    cases add with
    | true =>
      simp only [rappend, newFile, if_true, Bool.and_true]
      split
      · rfl
      · split
        · rfl
        · split <;> rfl
    | false => simp only [rput, newFile, Bool.and_false]; rfl
  rw [e]
  simp only [wr]
  split
  · exact .same h _
  rename_i ho
  have ho : d.off = false := by simpa using ho
  split
  · exact .same h _
  rename_i hn
  have hn := named_imp hn
  have hnm : (newFile d name data add).name = name := by simp only [newFile]; split <;> rfl
  have el : lay2 d name (newFile d name data add).data (newFile d name data add).synced = if tooFull d name data add then (d, 520) else ((with2 d ⟨name, (newFile d name data add).data, (newFile d name data add).synced⟩).done2, 0) := rfl
  rw [el]
  by_cases hf : tooFull d name data add = true
  · rw [if_pos hf, if_pos hf]; exact .same h _
  rw [if_neg hf, if_neg hf]
  simp only [tooFull] at hf
  simp only [Bool.or_eq_true, Bool.and_eq_true, Bool.not_eq_true', decide_eq_true_eq, not_or, not_and] at hf
  have hfo : FOk (newFile d name data add) := by
    refine ⟨by rw [hnm]; exact hn, ?_, ?_, by omega⟩
    · simp only [newFile]
      split
      · rename_i hb
        simp only [Bool.and_eq_true] at hb
        have := isAt_iff.1 hb.1
        exact (h.ok (d.fs[pos d.fs name]!) (getMem this.1)).s0
      · exact Int.le_refl _
    · simp only [newFile]
      split
      · rename_i hb
        simp only [Bool.and_eq_true] at hb
        have := isAt_iff.1 hb.1
        have := (h.ok (d.fs[pos d.fs name]!) (getMem this.1)).s1
        dsimp only
        rw [List.length_append]; omega
      · exact Int.natCast_nonneg _
  have key := put_rt h.srt h.ok hfo
  have e2 : (⟨name, (newFile d name data add).data, (newFile d name data add).synced⟩ : File) = newFile d name data add := by
    generalize newFile d name data add = g at *
    obtain ⟨a, b, c⟩ := g
    dsimp only at hnm; rw [hnm]
  rw [e2]
  simp only [with2]
  rw [hnm] at key ⊢
  obtain ⟨k1, k2, k3⟩ := key
  refine .put h ho _ k1 k2 ?_ ?_
  · rw [k3]
    split
    · exact h.size
    · rename_i hb
      have := hf.1 (by simpa using hb)
      omega
  · rw [k3]; split <;> omega

theorem at_self {d : Disk} {name : List UInt8} (h : ¬ (!isAt d.fs (pos d.fs name) name) = true) : isAt d.fs (pos d.fs name) name = true ∧ pos d.fs name < d.fs.length ∧ (d.fs[pos d.fs name]!).name = name := by
  have h : isAt d.fs (pos d.fs name) name = true := by simpa using h
  exact ⟨h, isAt_iff.1 h⟩

theorem agree_sync {d : Disk} (h : Rt d.fs d.left d.off) (name : List UInt8) : Agree d (sync d name) (rsync d name) := by
  simp only [sync, rsync]
  split
  · exact .same h _
  rename_i ho
  have ho : d.off = false := by simpa using ho
  split
  · exact .same h _
  rename_i hi
  obtain ⟨h1, h2, h3⟩ := at_self hi
  have hfo := h.ok (d.fs[pos d.fs name]!) (getMem h2)
  have key := put_rt h.srt h.ok (f := ⟨(d.fs[pos d.fs name]!).name, (d.fs[pos d.fs name]!).data, (d.fs[pos d.fs name]!).data.length⟩) ⟨hfo.name, Int.natCast_nonneg _, Int.le_refl _, hfo.len⟩
  simp only [with2]
  rw [h3] at key ⊢
  rw [h1] at key ⊢
  obtain ⟨k1, k2, k3⟩ := key
  refine .put h ho _ k1 k2 ?_ ?_
  · rw [k3, if_pos rfl]; exact h.size
  · rw [k3, if_pos rfl]; omega

theorem agree_move {d : Disk} (h : Rt d.fs d.left d.off) (old name : List UInt8) : Agree d (move d old name) (rmove d old name) := by
  simp only [move, rmove]
  split
  · exact .same h _
  rename_i ho
  have ho : d.off = false := by simpa using ho
  split
  · exact .same h _
  rename_i hi
  obtain ⟨h1, h2, h3⟩ := at_self hi
  split
  · exact .same h _
  rename_i hn
  have hn := named_imp hn
  have hfo := h.ok (d.fs[pos d.fs old]!) (getMem h2)
  obtain ⟨w1, w2⟩ := without_rt h.srt h.ok (pos d.fs old)
  have hwl := without_length d.fs (pos d.fs old) h2
  have key := put_rt w1 w2 (f := ⟨name, (d.fs[pos d.fs old]!).data, (d.fs[pos d.fs old]!).synced⟩) ⟨hn, hfo.s0, hfo.s1, hfo.len⟩
  have e : without2 d old = ⟨false, without d.fs (pos d.fs old), d.left, d.off⟩ := by simp only [without2, h1, if_true]
  rw [e]
  simp only [with2]
  dsimp only at key
  obtain ⟨k1, k2, k3⟩ := key
  have hsz := h.size
  refine .put h ho _ k1 k2 ?_ ?_
  · rw [k3]; split <;> omega
  · rw [k3]; split <;> omega

theorem agree_drop {d : Disk} (h : Rt d.fs d.left d.off) (name : List UInt8) : Agree d (drop d name) (rdrop d name) := by
  simp only [drop, rdrop]
  split
  · exact .same h _
  rename_i ho
  have ho : d.off = false := by simpa using ho
  split
  · exact .same h _
  rename_i hi
  obtain ⟨h1, h2, h3⟩ := at_self hi
  obtain ⟨w1, w2⟩ := without_rt h.srt h.ok (pos d.fs name)
  have hwl := without_length d.fs (pos d.fs name) h2
  have e : without2 d name = ⟨false, without d.fs (pos d.fs name), d.left, d.off⟩ := by simp only [without2, h1, if_true]
  rw [e]
  have hsz := h.size
  change Agree d (d.done false (without d.fs (pos d.fs name)), 0) _
  exact .put h ho _ w1 w2 (by omega) (by omega)

theorem agree (d : Disk) (x : Deed) (h : Rt d.fs d.left d.off) (hx : x.left ≤ 9223372036854775807) : Agree d (does d x) (should d x) := by
  simp only [does, should]
  split
  · exact agree_wr h x.name x.data false
  split
  · exact agree_wr h x.name x.data true
  split
  · exact agree_sync h x.name
  split
  · exact agree_move h x.name x.into
  split
  · exact agree_drop h x.name
  · have hl := (crN_bd x.keep d.fs d.fs.length).2
    refine ⟨rfl, rfl, rfl, rfl, (right_iff _ _ _).1 (crash_right d x.keep x.left), fun h => absurd rfl h, fun _ => ?_, ?_, fun _ => ?_⟩
    · simp only [crash]
      split
      · intro h; dsimp only at h ⊢; simpa using h
      · intro _; rfl
    · simp only [crash]
      split
      · dsimp only; omega
      · simp
    · simp only [crash]
      split <;> (dsimp only; omega)
end Go.Proofs.Try
