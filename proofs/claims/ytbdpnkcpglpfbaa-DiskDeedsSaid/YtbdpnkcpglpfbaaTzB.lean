/- The law DiskDeeds of the disk: the walk. -/
import Derived.Test.YtbdpnkcpglpfbaaTz
namespace Go.Proofs.Try
open Go Go.Sym

def dk (d : Disk) (l : List Deed) : Nat → Disk
  | 0 => d
  | i + 1 => (does (dk d l i) l[i]!).1
structure Dk (d : Disk) (i : Nat) : Prop where
  rt : Rt d.fs d.left d.off
  nl : d.nl = true → d.fs = []
  size : d.fs.length ≤ 400 + i
  top : d.left ≤ 9223372036854775807
theorem Dk.ok {d : Disk} {i : Nat} (h : Dk d i) (hi : i ≤ 40) : d.Ok := ⟨h.nl, by have := h.size; omega, by have := h.rt.low; omega, h.top⟩
theorem Dk.next {d : Disk} {i : Nat} (h : Dk d i) {x : Deed} (hx : x.left ≤ 9223372036854775807) : Dk (does d x).1 (i + 1) := by
  have ha := agree d x h.rt hx
  have hs := ha.size
  have hz := h.size
  exact ⟨by rw [ha.fs, ha.left, ha.off]; exact ha.rt, ha.nl h.nl, by omega, ha.top h.top⟩

set_option maxRecDepth 8000 in
set_option maxHeartbeats 2000000 in
theorem cDiskDeeds (nl : Bool) (fs : List File) (left : Int) (off : Bool) (ln : Bool) (l : List Deed) (hb : fs.length ≤ 140737488351232) (hs : ∀ f ∈ fs, f.data.length ≤ 140737488351232)
    (hnl : nl = true → fs = []) (hleft : left ≤ 9223372036854775807) (hx : ∀ x ∈ l, x.left ≤ 9223372036854775807) (hll : l.length ≤ 140737488351232) :
    Ctr prog 4 [D nl fs left off, .sl ln 6 (l.map Deed.pv)] [] (bV true) [] [] := by
  have c7 := cLarge nl fs left off hb hs
  have c11 := cRight nl fs left off
  have hlg := not_large hs
  have hri := right_iff fs left off
  generalize right fs left off = rt at *
  generalize large fs = lrg at *
  refine Ctr.enter tblOk func4 rfl (by decide) rfl (nt := 131) rfl rfl rfl rfl ?_
  refine Trip.seq ?_
  apply Trip.reg tblOk
  · repeat' (first | exact rfl | exact idx_map _ _ _ (by show _ < _; first | omega | (simp only [List.length_map] at *; omega)) | ((first | with_reducible refine bok ?_ | with_reducible refine bokL ?_ | with_reducible refine bokR ?_ | with_reducible refine Side.mk ?_); first | omega | exact .inl rfl | exact .inr ⟨rfl, rfl, rfl⟩ | exact fun h => h | exact fun _ h => h | exact fun _ h => congrArg Bool.not h | (intro _ h; simp [gpick, h]; done) | (dsimp only; omega) | (simp only [List.length_map]; done) | (simp only [List.length_map, List.length_append, List.length_cons, List.length_nil, Int.toNat_natCast]; omega) | (intro h1 h2; rw [h1, h2]; rfl)) | ((fail_if_success (with_reducible refine Side.mk ?_)); constructor))
  · exact rfl
  refine Trip.seq ?_
  refine Trip.seq ?_
  apply Trip.reg tblOk
  · repeat' (first | exact rfl | (apply Rule.sem; intro hγ; with_reducible apply F_call0 (x := .func 7) (B := []) hγ (hspec := c7)) | (apply Rule.sem; intro hγ; with_reducible apply F_call (x := .func 7) (σ := []) (B := []) (news := []) hγ (hspec := c7)) | (apply Rule.sem; intro hγ; with_reducible apply F_call0 (x := .func 11) (B := []) hγ (hspec := c11)) | (apply Rule.sem; intro hγ; with_reducible apply F_call (x := .func 11) (σ := []) (B := []) (news := []) hγ (hspec := c11)) | exact idx_map _ _ _ (by show _ < _; first | omega | (simp only [List.length_map] at *; omega)) | ((first | with_reducible refine bok ?_ | with_reducible refine bokL ?_ | with_reducible refine bokR ?_ | with_reducible refine Side.mk ?_); first | omega | exact .inl rfl | exact .inr ⟨rfl, rfl, rfl⟩ | exact fun h => h | exact fun _ h => h | exact fun _ h => congrArg Bool.not h | (intro _ h; simp [gpick, h]; done) | (dsimp only; omega) | (simp only [List.length_map]; done) | (simp only [List.length_map, List.length_append, List.length_cons, List.length_nil, Int.toNat_natCast]; omega) | (intro h1 h2; rw [h1, h2]; rfl)) | ((fail_if_success (with_reducible refine Side.mk ?_)); constructor))
  · exact rfl
  apply Trip.cond (.tmp rfl)
  · intro h
    refine Trip.seq ?_
    apply Trip.reg tblOk
    · repeat' (first | exact rfl | (apply Rule.sem; intro hγ; with_reducible apply F_call0 (x := .func 8) (B := []) hγ (hspec := cLives)) | (apply Rule.sem; intro hγ; with_reducible apply F_call (x := .func 8) (σ := []) (B := []) (news := []) hγ (hspec := cLives)) | exact idx_map _ _ _ (by show _ < _; first | omega | (simp only [List.length_map] at *; omega)) | ((first | with_reducible refine bok ?_ | with_reducible refine bokL ?_ | with_reducible refine bokR ?_ | with_reducible refine Side.mk ?_); first | omega | exact .inl rfl | exact .inr ⟨rfl, rfl, rfl⟩ | exact fun h => h | exact fun _ h => h | exact fun _ h => congrArg Bool.not h | (intro _ h; simp [gpick, h]; done) | (dsimp only; omega) | (simp only [List.length_map]; done) | (simp only [List.length_map, List.length_append, List.length_cons, List.length_nil, Int.toNat_natCast]; omega) | (intro h1 h2; rw [h1, h2]; rfl)) | ((fail_if_success (with_reducible refine Side.mk ?_)); constructor))
    · exact rfl
    refine Trip.ret ?_
    apply Ret1 []
    · repeat' (first | exact rfl | constructor)
    · exact rfl
    · repeat' (first | exact rfl | constructor)
  intro h
  simp only [Bool.or_eq_false_iff, Bool.not_eq_false', decide_eq_false_iff_not, List.length_map] at h
  obtain ⟨⟨h, hr⟩, hl40⟩ := h
  subst hr
  have hlen := hlg h
  have hD0 : Dk (dk ⟨nl, fs, left, off⟩ l 0) 0 := ⟨hri.1 rfl, hnl, hlen, hleft⟩
  refine Trip.skip ?_
  refine Trip.seq ?_
  refine Trip.seq ?_
  apply Trip.reg tblOk
  · repeat' (first | exact rfl | exact idx_map _ _ _ (by show _ < _; first | omega | (simp only [List.length_map] at *; omega)) | ((first | with_reducible refine bok ?_ | with_reducible refine bokL ?_ | with_reducible refine bokR ?_ | with_reducible refine Side.mk ?_); first | omega | exact .inl rfl | exact .inr ⟨rfl, rfl, rfl⟩ | exact fun h => h | exact fun _ h => h | exact fun _ h => congrArg Bool.not h | (intro _ h; simp [gpick, h]; done) | (dsimp only; omega) | (simp only [List.length_map]; done) | (simp only [List.length_map, List.length_append, List.length_cons, List.length_nil, Int.toNat_natCast]; omega) | (intro h1 h2; rw [h1, h2]; rfl)) | ((fail_if_success (with_reducible refine Side.mk ?_)); constructor))
  · exact rfl
  refine Trip.block ?_
  apply Trip.loop (fun (i : Nat) => ⟨[(1, .sl ln 6 (l.map Deed.pv)), (2, .ref 2 0), (5, iV i)], [(2, .box (diskCells (dk ⟨nl, fs, left, off⟩ l i).nl (dk ⟨nl, fs, left, off⟩ l i).fs (dk ⟨nl, fs, left, off⟩ l i).left (dk ⟨nl, fs, left, off⟩ l i).off))]⟩) (fun (i : Nat) => i ≤ l.length ∧ Dk (dk ⟨nl, fs, left, off⟩ l i) i) (fun (i : Nat) => l.length - i) (0)
  · exact ⟨Nat.zero_le _, hD0⟩
  · apply Weak.keep
    · exact rfl
    · repeat' (first | exact rfl | (refine vI ?_; first | omega | (simp; done) | (simp; omega) | (simp only [List.length_map] at *; omega)) | constructor)
    · repeat' (first | exact rfl | (refine vI ?_; first | omega | (simp; done) | (simp; omega) | (simp only [List.length_map] at *; omega)) | constructor)
    · exact rfl
    · repeat' (first | exact rfl | constructor)
  intro i ⟨hi, hD⟩
  refine Trip.seq ?_
  refine Trip.seq ?_
  apply Trip.reg tblOk
  · repeat' (first | exact rfl | exact idx_map _ _ _ (by show _ < _; first | omega | (simp only [List.length_map] at *; omega)) | ((first | with_reducible refine bok ?_ | with_reducible refine bokL ?_ | with_reducible refine bokR ?_ | with_reducible refine Side.mk ?_); first | omega | exact .inl rfl | exact .inr ⟨rfl, rfl, rfl⟩ | exact fun h => h | exact fun _ h => h | exact fun _ h => congrArg Bool.not h | (intro _ h; simp [gpick, h]; done) | (dsimp only; omega) | (simp only [List.length_map]; done) | (simp only [List.length_map, List.length_append, List.length_cons, List.length_nil, Int.toNat_natCast]; omega) | (intro h1 h2; rw [h1, h2]; rfl)) | ((fail_if_success (with_reducible refine Side.mk ?_)); constructor))
  · exact rfl
  apply Trip.cond (.tmp rfl)
  · intro hlt
    have hlt : i < l.length := by simpa using hlt
    have hxi := hx l[i]! (getMem hlt)
    have hxs := idx_map Deed.pv l i hlt
    have hnx : dk ⟨nl, fs, left, off⟩ l (i + 1) = (does (dk ⟨nl, fs, left, off⟩ l i) l[i]!).1 := rfl
    have hDn := hD.next hxi
    generalize l[i]! = x at *
    generalize hdk : dk ⟨nl, fs, left, off⟩ l i = d at *
    have hok := hD.ok (by omega)
    have hag := agree d x hD.rt hxi
    refine Trip.skip ?_
    refine Trip.seq ?_
    refine Trip.block ?_
    refine Trip.seq ?_
    refine Trip.seq ?_
    apply Trip.reg tblOk
    · repeat' (first | exact rfl | exact hxs | exact idx_map _ _ _ (by show _ < _; first | omega | (simp only [List.length_map] at *; omega)) | ((first | with_reducible refine bok ?_ | with_reducible refine bokL ?_ | with_reducible refine bokR ?_ | with_reducible refine Side.mk ?_); first | omega | exact .inl rfl | exact .inr ⟨rfl, rfl, rfl⟩ | exact fun h => h | exact fun _ h => h | exact fun _ h => congrArg Bool.not h | (intro _ h; simp [gpick, h]; done) | (dsimp only; omega) | (simp only [List.length_map]; done) | (simp only [List.length_map, List.length_append, List.length_cons, List.length_nil, Int.toNat_natCast]; omega) | (intro h1 h2; rw [h1, h2]; rfl)) | ((fail_if_success (with_reducible refine Side.mk ?_)); constructor))
    · exact rfl
    apply Trip.cond (.tmp rfl)
    · intro h2
      refine Trip.seq ?_
      apply Trip.reg tblOk
      · repeat' (first | exact rfl | (apply Rule.sem; intro hγ; with_reducible apply F_call0 (x := .func 8) (B := []) hγ (hspec := cLives)) | (apply Rule.sem; intro hγ; with_reducible apply F_call (x := .func 8) (σ := []) (B := []) (news := []) hγ (hspec := cLives)) | exact idx_map _ _ _ (by show _ < _; first | omega | (simp only [List.length_map] at *; omega)) | ((first | with_reducible refine bok ?_ | with_reducible refine bokL ?_ | with_reducible refine bokR ?_ | with_reducible refine Side.mk ?_); first | omega | exact .inl rfl | exact .inr ⟨rfl, rfl, rfl⟩ | exact fun h => h | exact fun _ h => h | exact fun _ h => congrArg Bool.not h | (intro _ h; simp [gpick, h]; done) | (dsimp only; omega) | (simp only [List.length_map]; done) | (simp only [List.length_map, List.length_append, List.length_cons, List.length_nil, Int.toNat_natCast]; omega) | (intro h1 h2; rw [h1, h2]; rfl)) | ((fail_if_success (with_reducible refine Side.mk ?_)); constructor))
      · exact rfl
      refine Trip.ret ?_
      apply Ret1 []
      · repeat' (first | exact rfl | constructor)
      · exact rfl
      · repeat' (first | exact rfl | constructor)
    intro h2
    have h2 : x.data.length ≤ 1000 := by simp at h2; omega
    refine Trip.skip ?_
    have hs2 : ∀ f ∈ d.fs, f.data.length + x.data.length ≤ 9223372036854775807 := fun f hf => by have := (hD.rt.ok f hf).len; omega
    have c16 := cDoes d x hok hs2
    have c17 := cShould d x hok hs2
    generalize does d x = r at *
    generalize should d x = s at *
    obtain ⟨⟨nt, ft, lt', ot⟩, et⟩ := r
    obtain ⟨⟨nu, fu, lu, ou⟩, eu⟩ := s
    obtain ⟨a1, a2, a3, a4, a5, a6, a7, a8, a9⟩ := hag
    dsimp only at *
    subst a1 a2 a3 a4
    have hz := hDn.size
    dsimp only at hz
    have c61 : Ctr prog 12 [D nt ft lt' ot, D nu ft lt' ot] [] (bV true) [] [] := by
      have := cSame nt nu ft ft lt' lt' ot ot (by omega)
      rwa [(same_eq _ _ _ _ _ _).2 ⟨rfl, rfl, rfl⟩] at this
    have c79 := cSame nt d.nl ft d.fs lt' d.left ot d.off (by omega)
    have c70 := cRight nu ft lt' ot
    rw [(right_iff ft lt' ot).2 a5] at c70
    have hsame : et ≠ 0 → same lt' ot ft d.left d.off d.fs = true := fun h => by
      obtain ⟨b1, b2, b3⟩ := a6 h
      exact (same_eq _ _ _ _ _ _).2 ⟨b2, b3, b1⟩
    generalize same lt' ot ft d.left d.off d.fs = sm at *
    have c90 := cGet ⟨nt, ft, lt', ot⟩ x.name (by dsimp only; omega)
    have c100 : Ctr prog 19 [D nu ft lt' ot, sV x.name] [] (.tup [sV (gets ⟨nt, ft, lt', ot⟩ x.name).1, iV (gets ⟨nt, ft, lt', ot⟩ x.name).2]) [] [] := cGet2 ⟨nu, ft, lt', ot⟩ x.name (by dsimp only; omega)
    generalize gets ⟨nt, ft, lt', ot⟩ x.name = gt at *
    obtain ⟨g1, g2⟩ := gt
    have c118 := cNames nt ft lt' ot x.into (by omega)
    have c125 := cNames2 nu ft lt' ot x.into (by omega)
    have hnl2 : (namesOf ft x.into).length ≤ ft.length := by have := namesOf_length ft x.into ft.length; rwa [List.take_length] at this
    generalize namesOf ft x.into = ns at *
    have c126 := cSameTexts ns.isEmpty ns.isEmpty ns ns (by omega)
    rw [sameT_eq, decide_eq_true rfl] at c126
    obtain ⟨kind, cleft, name, data, into, kn, keep⟩ := x
    dsimp only at *
    apply Trip.drwk ⟨[(1, .sl ln 6 (l.map Deed.pv)), (2, .ref 2 0), (5, iV i), (6, .ref 6 0), (7, iV et)], [(2, .box (diskCells d.nl d.fs d.left d.off)), (6, .box (diskCells nt ft lt' ot))]⟩ tblOk mixed
    · repeat' (first | exact rfl | (apply Rule.sem; intro hγ; with_reducible apply F_call0 (x := .func 16) (B := []) hγ (hspec := c16)) | (apply Rule.sem; intro hγ; with_reducible apply F_call (x := .func 16) (σ := []) (B := []) (news := []) hγ (hspec := c16)) | exact hxs | exact idx_map _ _ _ (by show _ < _; first | omega | (simp only [List.length_map] at *; omega)) | ((first | with_reducible refine bok ?_ | with_reducible refine bokL ?_ | with_reducible refine bokR ?_ | with_reducible refine Side.mk ?_); first | omega | exact .inl rfl | exact .inr ⟨rfl, rfl, rfl⟩ | exact fun h => h | exact fun _ h => h | exact fun _ h => congrArg Bool.not h | (intro _ h; simp [gpick, h]; done) | (dsimp only; omega) | (simp only [List.length_map]; done) | (simp only [List.length_map, List.length_append, List.length_cons, List.length_nil, Int.toNat_natCast]; omega) | (intro h1 h2; rw [h1, h2]; rfl)) | ((fail_if_success (with_reducible refine Side.mk ?_)); constructor))
    · exact rfl
    · kernel_rfl
    · apply Weak.keep
      · exact rfl
      · repeat' (first | exact rfl | (refine vI ?_; first | omega | (simp; done) | (simp; omega) | (simp only [List.length_map] at *; omega)) | constructor)
      · repeat' (first | exact rfl | (refine vI ?_; first | omega | (simp; done) | (simp; omega) | (simp only [List.length_map] at *; omega)) | constructor)
      · exact rfl
      · repeat' (first | exact rfl | constructor)
    apply Trip.drwk ⟨[(1, .sl ln 6 (l.map Deed.pv)), (2, .ref 2 0), (5, iV i), (6, .ref 6 0), (7, iV et), (8, .ref 8 0), (9, iV et)], [(2, .box (diskCells d.nl d.fs d.left d.off)), (6, .box (diskCells nt ft lt' ot)), (8, .box (diskCells nu ft lt' ot))]⟩ tblOk mixed
    · repeat' (first | exact rfl | (apply Rule.sem; intro hγ; with_reducible apply F_call0 (x := .func 17) (B := []) hγ (hspec := c17)) | (apply Rule.sem; intro hγ; with_reducible apply F_call (x := .func 17) (σ := []) (B := []) (news := []) hγ (hspec := c17)) | exact hxs | exact idx_map _ _ _ (by show _ < _; first | omega | (simp only [List.length_map] at *; omega)) | ((first | with_reducible refine bok ?_ | with_reducible refine bokL ?_ | with_reducible refine bokR ?_ | with_reducible refine Side.mk ?_); first | omega | exact .inl rfl | exact .inr ⟨rfl, rfl, rfl⟩ | exact fun h => h | exact fun _ h => h | exact fun _ h => congrArg Bool.not h | (intro _ h; simp [gpick, h]; done) | (dsimp only; omega) | (simp only [List.length_map]; done) | (simp only [List.length_map, List.length_append, List.length_cons, List.length_nil, Int.toNat_natCast]; omega) | (intro h1 h2; rw [h1, h2]; rfl)) | ((fail_if_success (with_reducible refine Side.mk ?_)); constructor))
    · exact rfl
    · kernel_rfl
    · apply Weak.keep
      · exact rfl
      · repeat' (first | exact rfl | (refine vI ?_; first | omega | (simp; done) | (simp; omega) | (simp only [List.length_map] at *; omega)) | constructor)
      · repeat' (first | exact rfl | (refine vI ?_; first | omega | (simp; done) | (simp; omega) | (simp only [List.length_map] at *; omega)) | constructor)
      · exact rfl
      · repeat' (first | exact rfl | constructor)
    refine Trip.seq ?_
    refine Trip.seq ?_
    apply Trip.reg tblOk
    · repeat' (first | exact rfl | (apply Rule.sem; intro hγ; with_reducible apply F_call0 (dst := some 61) (x := .func 12) (B := []) hγ (hspec := c61)) | (apply Rule.sem; intro hγ; with_reducible apply F_call (dst := some 61) (x := .func 12) (σ := []) (B := []) (news := []) hγ (hspec := c61)) | (apply Rule.sem; intro hγ; with_reducible apply F_call0 (dst := some 79) (x := .func 12) (B := []) hγ (hspec := c79)) | (apply Rule.sem; intro hγ; with_reducible apply F_call (dst := some 79) (x := .func 12) (σ := []) (B := []) (news := []) hγ (hspec := c79)) | (apply Rule.sem; intro hγ; with_reducible apply F_call0 (x := .func 11) (B := []) hγ (hspec := c70)) | (apply Rule.sem; intro hγ; with_reducible apply F_call (x := .func 11) (σ := []) (B := []) (news := []) hγ (hspec := c70)) | exact idx_map _ _ _ (by show _ < _; first | omega | (simp only [List.length_map] at *; omega)) | ((first | with_reducible refine bok ?_ | with_reducible refine bokL ?_ | with_reducible refine bokR ?_ | with_reducible refine Side.mk ?_); first | omega | exact .inl rfl | exact .inr ⟨rfl, rfl, rfl⟩ | exact fun h => h | exact fun _ h => h | exact fun _ h => congrArg Bool.not h | (intro _ h; simp [gpick, h]; done) | (dsimp only; omega) | (simp only [List.length_map]; done) | (simp only [List.length_map, List.length_append, List.length_cons, List.length_nil, Int.toNat_natCast]; omega) | (intro h1 h2; rw [h1, h2]; rfl)) | ((fail_if_success (with_reducible refine Side.mk ?_)); constructor))
    · exact rfl
    apply Trip.cond (.tmp rfl)
    · intro h3
      exfalso
      revert h3
      by_cases he : et = 0
      · rw [decide_eq_true he, decide_eq_true rfl]; simp
      · rw [decide_eq_false he, decide_eq_true rfl, hsame he]; simp
    intro _
    refine Trip.skip ?_
    apply Trip.drwk ⟨[(1, .sl ln 6 (l.map Deed.pv)), (2, .ref 2 0), (5, iV i), (6, .ref 6 0), (8, .ref 8 0), (10, sV g1), (11, iV g2)], [(2, .box (diskCells d.nl d.fs d.left d.off)), (6, .box (diskCells nt ft lt' ot)), (8, .box (diskCells nu ft lt' ot))]⟩ tblOk mixed
    · repeat' (first | exact rfl | (apply Rule.sem; intro hγ; with_reducible apply F_call0 (x := .func 18) (B := []) hγ (hspec := c90)) | (apply Rule.sem; intro hγ; with_reducible apply F_call (x := .func 18) (σ := []) (B := []) (news := []) hγ (hspec := c90)) | exact hxs | exact idx_map _ _ _ (by show _ < _; first | omega | (simp only [List.length_map] at *; omega)) | ((first | with_reducible refine bok ?_ | with_reducible refine bokL ?_ | with_reducible refine bokR ?_ | with_reducible refine Side.mk ?_); first | omega | exact .inl rfl | exact .inr ⟨rfl, rfl, rfl⟩ | exact fun h => h | exact fun _ h => h | exact fun _ h => congrArg Bool.not h | (intro _ h; simp [gpick, h]; done) | (dsimp only; omega) | (simp only [List.length_map]; done) | (simp only [List.length_map, List.length_append, List.length_cons, List.length_nil, Int.toNat_natCast]; omega) | (intro h1 h2; rw [h1, h2]; rfl)) | ((fail_if_success (with_reducible refine Side.mk ?_)); constructor))
    · exact rfl
    · kernel_rfl
    · apply Weak.keep
      · exact rfl
      · repeat' (first | exact rfl | (refine vI ?_; first | omega | (simp; done) | (simp; omega) | (simp only [List.length_map] at *; omega)) | constructor)
      · repeat' (first | exact rfl | (refine vI ?_; first | omega | (simp; done) | (simp; omega) | (simp only [List.length_map] at *; omega)) | constructor)
      · exact rfl
      · repeat' (first | exact rfl | constructor)
    apply Trip.drwk ⟨[(1, .sl ln 6 (l.map Deed.pv)), (2, .ref 2 0), (5, iV i), (6, .ref 6 0), (8, .ref 8 0), (10, sV g1), (11, iV g2), (12, sV g1), (13, iV g2)], [(2, .box (diskCells d.nl d.fs d.left d.off)), (6, .box (diskCells nt ft lt' ot)), (8, .box (diskCells nu ft lt' ot))]⟩ tblOk mixed
    · repeat' (first | exact rfl | (apply Rule.sem; intro hγ; with_reducible apply F_call0 (x := .func 19) (B := []) hγ (hspec := c100)) | (apply Rule.sem; intro hγ; with_reducible apply F_call (x := .func 19) (σ := []) (B := []) (news := []) hγ (hspec := c100)) | exact hxs | exact idx_map _ _ _ (by show _ < _; first | omega | (simp only [List.length_map] at *; omega)) | ((first | with_reducible refine bok ?_ | with_reducible refine bokL ?_ | with_reducible refine bokR ?_ | with_reducible refine Side.mk ?_); first | omega | exact .inl rfl | exact .inr ⟨rfl, rfl, rfl⟩ | exact fun h => h | exact fun _ h => h | exact fun _ h => congrArg Bool.not h | (intro _ h; simp [gpick, h]; done) | (dsimp only; omega) | (simp only [List.length_map]; done) | (simp only [List.length_map, List.length_append, List.length_cons, List.length_nil, Int.toNat_natCast]; omega) | (intro h1 h2; rw [h1, h2]; rfl)) | ((fail_if_success (with_reducible refine Side.mk ?_)); constructor))
    · exact rfl
    · kernel_rfl
    · apply Weak.keep
      · exact rfl
      · repeat' (first | exact rfl | (refine vI ?_; first | omega | (simp; done) | (simp; omega) | (simp only [List.length_map] at *; omega)) | constructor)
      · repeat' (first | exact rfl | (refine vI ?_; first | omega | (simp; done) | (simp; omega) | (simp only [List.length_map] at *; omega)) | constructor)
      · exact rfl
      · repeat' (first | exact rfl | constructor)
    refine Trip.seq ?_
    refine Trip.seq ?_
    apply Trip.drw tblOk mixed
    · repeat' (first | exact rfl | (apply Rule.sem; intro hγ; with_reducible apply F_call0 (x := .func 21) (B := []) hγ (hspec := c118)) | (apply Rule.sem; intro hγ; with_reducible apply F_call (x := .func 21) (σ := []) (B := []) (news := []) hγ (hspec := c118)) | (apply Rule.sem; intro hγ; with_reducible apply F_call0 (x := .func 22) (B := []) hγ (hspec := c125)) | (apply Rule.sem; intro hγ; with_reducible apply F_call (x := .func 22) (σ := []) (B := []) (news := []) hγ (hspec := c125)) | (apply Rule.sem; intro hγ; with_reducible apply F_call0 (x := .func 20) (B := []) hγ (hspec := c126)) | (apply Rule.sem; intro hγ; with_reducible apply F_call (x := .func 20) (σ := []) (B := []) (news := []) hγ (hspec := c126)) | exact hxs | exact idx_map _ _ _ (by show _ < _; first | omega | (simp only [List.length_map] at *; omega)) | ((first | with_reducible refine bok ?_ | with_reducible refine bokL ?_ | with_reducible refine bokR ?_ | with_reducible refine Side.mk ?_); first | omega | exact .inl rfl | exact .inr ⟨rfl, rfl, rfl⟩ | exact fun h => h | exact fun _ h => h | exact fun _ h => congrArg Bool.not h | (intro _ h; simp [gpick, h]; done) | (dsimp only; omega) | (simp only [List.length_map]; done) | (simp only [List.length_map, List.length_append, List.length_cons, List.length_nil, Int.toNat_natCast]; omega) | (intro h1 h2; rw [h1, h2]; rfl)) | ((fail_if_success (with_reducible refine Side.mk ?_)); constructor))
    · exact rfl
    · kernel_rfl
    apply Trip.cond (.tmp rfl)
    · intro h3
      exfalso
      rw [decide_eq_true rfl, decide_eq_true rfl] at h3
      exact absurd h3 (by decide)
    intro _
    refine Trip.skip ?_
    apply Trip.reg tblOk
    · repeat' (first | exact rfl | exact idx_map _ _ _ (by show _ < _; first | omega | (simp only [List.length_map] at *; omega)) | ((first | with_reducible refine bok ?_ | with_reducible refine bokL ?_ | with_reducible refine bokR ?_ | with_reducible refine Side.mk ?_); first | omega | exact .inl rfl | exact .inr ⟨rfl, rfl, rfl⟩ | exact fun h => h | exact fun _ h => h | exact fun _ h => congrArg Bool.not h | (intro _ h; simp [gpick, h]; done) | (dsimp only; omega) | (simp only [List.length_map]; done) | (simp only [List.length_map, List.length_append, List.length_cons, List.length_nil, Int.toNat_natCast]; omega) | (intro h1 h2; rw [h1, h2]; rfl)) | ((fail_if_success (with_reducible refine Side.mk ?_)); constructor))
    · exact rfl
    apply Trip.reg tblOk
    · repeat' (first | exact rfl | exact idx_map _ _ _ (by show _ < _; first | omega | (simp only [List.length_map] at *; omega)) | ((first | with_reducible refine bok ?_ | with_reducible refine bokL ?_ | with_reducible refine bokR ?_ | with_reducible refine Side.mk ?_); first | omega | exact .inl rfl | exact .inr ⟨rfl, rfl, rfl⟩ | exact fun h => h | exact fun _ h => h | exact fun _ h => congrArg Bool.not h | (intro _ h; simp [gpick, h]; done) | (dsimp only; omega) | (simp only [List.length_map]; done) | (simp only [List.length_map, List.length_append, List.length_cons, List.length_nil, Int.toNat_natCast]; omega) | (intro h1 h2; rw [h1, h2]; rfl)) | ((fail_if_success (with_reducible refine Side.mk ?_)); constructor))
    · exact rfl
    refine ⟨i + 1, ?_, ?_, ?_⟩
    · exact ⟨by omega, by rw [hnx]; exact hDn⟩
    · first | omega | (dsimp only at *; omega)
    · apply Weak.keep
      · exact rfl
      · repeat' (first | exact rfl | (rw [hnx]; exact rfl) | (refine vI ?_; first | omega | (simp; done) | (simp; omega) | (simp only [List.length_map] at *; omega)) | constructor)
      · repeat' (first | exact rfl | (rw [hnx]; exact rfl) | (refine vI ?_; first | omega | (simp; done) | (simp; omega) | (simp only [List.length_map] at *; omega)) | constructor)
      · exact rfl
      · repeat' (first | exact rfl | (rw [hnx]; exact rfl) | constructor)
  · intro hge
    refine Trip.exit ?_
    refine Trip.seq ?_
    apply Trip.reg tblOk
    · repeat' (first | exact rfl | (apply Rule.sem; intro hγ; with_reducible apply F_call0 (x := .func 8) (B := []) hγ (hspec := cLives)) | (apply Rule.sem; intro hγ; with_reducible apply F_call (x := .func 8) (σ := []) (B := []) (news := []) hγ (hspec := cLives)) | exact idx_map _ _ _ (by show _ < _; first | omega | (simp only [List.length_map] at *; omega)) | ((first | with_reducible refine bok ?_ | with_reducible refine bokL ?_ | with_reducible refine bokR ?_ | with_reducible refine Side.mk ?_); first | omega | exact .inl rfl | exact .inr ⟨rfl, rfl, rfl⟩ | exact fun h => h | exact fun _ h => h | exact fun _ h => congrArg Bool.not h | (intro _ h; simp [gpick, h]; done) | (dsimp only; omega) | (simp only [List.length_map]; done) | (simp only [List.length_map, List.length_append, List.length_cons, List.length_nil, Int.toNat_natCast]; omega) | (intro h1 h2; rw [h1, h2]; rfl)) | ((fail_if_success (with_reducible refine Side.mk ?_)); constructor))
    · exact rfl
    refine Trip.ret ?_
    apply Ret1 []
    · repeat' (first | exact rfl | constructor)
    · exact rfl
    · repeat' (first | exact rfl | constructor)
end Go.Proofs.Try
