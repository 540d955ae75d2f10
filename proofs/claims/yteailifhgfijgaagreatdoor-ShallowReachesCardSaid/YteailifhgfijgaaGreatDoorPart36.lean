/- A part of the proof: We, Hq, Hr, He. -/
import Derived.Test.YteailifhgfijgaaGreatDoorPart34
import Derived.Test.YteailifhgfijgaaGreatDoorPart35
set_option linter.unusedVariables false
set_option linter.unusedSimpArgs false
namespace Go.Proofs.Tryz
open Go Go.Sym Go.Graft
set_option maxRecDepth 20000
theorem msort_sortS {S T : List Str} (h : S.Nodup) (hm : ∀ x, x ∈ S ↔ x ∈ T) : msort S = sortS T := asc_unique (msort_asc h) (sortS_asc T) fun x => by rw [msort_mem, sortS_mem, hm]
theorem isEmpty_mem {a b : List Str} (h : ∀ x, x ∈ a ↔ x ∈ b) : a.isEmpty = b.isEmpty := by
 rw [Bool.eq_iff_iff, List.isEmpty_iff, List.isEmpty_iff, List.eq_nil_iff_forall_not_mem, List.eq_nil_iff_forall_not_mem]
 exact forall_congr' fun x => by rw [h]
set_option maxHeartbeats 2000000 in
theorem cDepthS (v : Vw) (nw : Bool) (wants : List Str) (n : Int) (hs : v.l.length ≤ 1000) (hc : v.cuts.length ≤ 1000000000) (hb : ∀ x ∈ v.l, x.body.length ≤ 3000) (hid : ∀ x ∈ v.l, x.id.length ≤ 1000000000) (hw : wants.length ≤ 1000) (hn : n ≤ 9223372036854775807) :
  Ctr prog 9 [v.pv, .sl nw 1 (wants.map fun x => sV x), iV n] [] (.tup [.sl (depAll v.l v.cuts wants n).1.isEmpty 1 ((depAll v.l v.cuts wants n).1.map fun x => sV x), .sl (depAll v.l v.cuts wants n).2.1.isEmpty 1 ((depAll v.l v.cuts wants n).2.1.map fun x => sV x), iV (depAll v.l v.cuts wants n).2.2]) [] [] := by
 have c1 := fun id => cParW v id (by omega) hc (fun x hx => by have := hb x hx; omega)
 have hD : depAll v.l v.cuts wants n = if n < 1 then ([], [], 1) else depR v.l v.cuts n.toNat wants [] := rfl
 obtain ⟨nl, l, nr, rf, ng, lg, nc, cuts⟩ := v
 dsimp only at *
 have hall := allP_len l hb
 generalize depAll l cuts wants n = D at *
 refine Ctr.enter tblOk func9 rfl (by decide) rfl (nt := 86) rfl rfl rfl rfl ?_
 refine Trip.sr tblOk ?_
 refine Trip.seq (Trip.sr tblOk ?_)
 apply Trip.cond (.tmp rfl)
 ·intro h
  have h : n < 1 := by simpa using h
  rw [if_pos h] at hD
  subst hD
  refine Trip.sr tblOk ?_
  refine Trip.ret (rt3 [])
 intro h
 have h : ¬ n < 1 := by simpa using h
 rw [if_neg h] at hD
 obtain ⟨m, hm⟩ : ∃ m : Nat, n = (m : Int) := ⟨n.toNat, by omega⟩
 subst hm
 rw [Int.toNat_natCast] at hD
 have hm1 : 1 ≤ m := by omega
 clear h
 refine Trip.skip (Trip.sR tblOk (by repeat' (first | exact rfl | (apply Rule.sem; intro hγ; with_reducible apply F_makeMap) | constructor)) ?_)
 refine Trip.sr tblOk ?_
 refine Trip.sr tblOk ?_
 refine Trip.seq (Trip.sr tblOk ?_)
 refine Trip.block ?_
 apply Trip.loop (fun (q : Nat × Bool × List Str × List Str × List Str) => ⟨[(2, iV m), (3, .ref 3 0), (9, .mref 22), (10, .osl 901 0 q.2.2.2.2.length q.2.2.2.2.length), (11, .sl q.2.1 1 (q.2.2.1.map fun x => sV x)), (12, iV q.1)], [(901, .arr 1 q.2.2.2.2.isEmpty (q.2.2.2.2.map fun x => sV x)), (22, .map ((seenL q.2.2.2.1).1.map strK) ((seenL q.2.2.2.1).2.map fun b => bV b)), (3, .box (Vw.cells ⟨nl, l, nr, rf, ng, lg, nc, cuts⟩))]⟩) (fun (q : Nat × Bool × List Str × List Str × List Str) => q.1 ≤ m ∧ DepW l cuts m D q.1 q.2.2.1 q.2.2.2.1 q.2.2.2.2 ∧ q.2.2.1.length ≤ 3000000 ∧ (∀ x ∈ q.2.2.1, x ∈ wants ++ allP l) ∧ (∀ x ∈ q.2.2.2.1, x ∈ wants ++ allP l)) (fun (q : Nat × Bool × List Str × List Str × List Str) => m - q.1) ((0, nw, wants, [], []))
 ·exact ⟨Nat.zero_le _, DepW.start hm1 hD.symm, by dsimp only; omega, fun x hx => List.mem_append_left _ hx, by simp⟩
 ·refine Weak.trans (S2 := ⟨[(2, iV m), (3, .ref 3 0), (9, .mref 22), (10, nilS), (11, .sl nw 1 (wants.map fun x => sV x)), (12, iV 0)], [(22, .map [] []), (3, .box (Vw.cells ⟨nl, l, nr, rf, ng, lg, nc, cuts⟩))]⟩) ?_ (Weak.trans (S2 := ⟨[(2, iV m), (3, .ref 3 0), (9, .mref 22), (10, .osl 901 0 0 0), (11, .sl nw 1 (wants.map fun x => sV x)), (12, iV 0)], [(901, .arr 1 true []), (22, .map [] []), (3, .box (Vw.cells ⟨nl, l, nr, rf, ng, lg, nc, cuts⟩))]⟩) ?_ ?_)
  ·exact Weak.kp
  ·exact Weak.adopt 901 1 rfl rfl (by repeat' (first | exact rfl | constructor)) (by repeat' (first | exact rfl | constructor))
  ·exact Weak.kp
 rintro ⟨k, fl, f, S, C⟩ ⟨hkm, hW, hfl, hfm, hSm⟩
 dsimp only at *
 have hSl : S.length ≤ 1000 + l.length * 3000 := by
  have := nodup_len hW.nd hSm
  rw [List.length_append] at this; omega
 have hCl : C.length ≤ S.length := nodup_len hW.cnd hW.csub
 refine Trip.seq (Trip.sR tblOk (by repeat' (first | exact rfl | ((with_reducible refine Side.mk ?_); first | exact fun h => h | exact fun _ h => h) | constructor)) ?_)
 apply Trip.cond (.tmp rfl)
 ·intro h
  have h : k < m ∧ f ≠ [] := by
   rw [Bool.and_eq_true, decide_eq_true_eq, decide_eq_true_eq] at h
   exact ⟨by omega, by rintro rfl; simp at h⟩
  obtain ⟨hk, hf0⟩ := h
  refine Trip.skip (Trip.seq (Trip.block (Trip.sR tblOk (by repeat' (first | exact rfl | (apply Rule.sem; intro hγ; with_reducible apply F_makeMap) | constructor)) ?_)))
  refine Trip.seq (Trip.sr tblOk ?_)
  refine Trip.block ?_
  refine Trip.loop (fun (q : Nat × Dep) => ⟨[(2, iV m), (3, .ref 3 0), (9, .mref 22), (10, .osl 901 0 q.2.C.length q.2.C.length), (12, iV k), (13, .mref 34), (35, .sl fl 1 (f.map fun x => sV x)), (36, iV f.length), (37, iV q.1)], [(901, .arr 1 q.2.C.isEmpty (q.2.C.map fun x => sV x)), (22, .map ((seenL q.2.S).1.map strK) ((seenL q.2.S).2.map fun b => bV b)), (34, .map ((seenL q.2.N).1.map strK) ((seenL q.2.N).2.map fun b => bV b)), (3, .box (Vw.cells ⟨nl, l, nr, rf, ng, lg, nc, cuts⟩))]⟩) (fun (q : Nat × Dep) => q.1 ≤ f.length ∧ DepI l cuts (decide (k + 1 = m)) f S C q.1 q.2) (fun (q : Nat × Dep) => f.length - q.1) ((0, ⟨S, C, []⟩)) (by exact ⟨Nat.zero_le _, hW.zero⟩) (Weak.kp (ht := by repeat' (first | exact rfl | (refine vI ?_; first | omega | (simp; done) | (simp; omega) | (simp only [List.length_map] at *; omega)) | constructor)) (huo := by repeat' (first | exact rfl | exact plainL_map _ (fun _ => rfl) _ | constructor))) ?_
  rintro ⟨i, d⟩ ⟨hi, hI⟩
  dsimp only at *
  have hdS : ∀ x ∈ d.S, x ∈ wants ++ allP l := fun x hx => by
   rcases (hI.s x).1 hx with k | k
   ·exact hSm x k
   ·exact hfm x (List.mem_of_mem_take (List.mem_filter.1 k).1)
  have hdSl : d.S.length ≤ 1000 + l.length * 3000 := by
   have := nodup_len hI.nd hdS
   rw [List.length_append] at this; omega
  have hdC : d.C.length ≤ d.S.length := nodup_len hI.cnd hI.csub
  have hlN := seenL_len d.N
  have hlS := seenL_len d.S
  refine Trip.sr tblOk ?_
  refine Trip.seq ?_
  apply Trip.cond (.tmp rfl)
  ·intro h
   have h : i < f.length := by simp at h; omega
   have c1 := c1 f[i]!
   have hvm := seenL_val d.S f[i]!
   have hold := hI.old h
   have hnew := hI.new h
   have hbad := hI.bad h
   have hsn := seenL_snoc d.S f[i]!
   have hpl := rdP_len l cuts f[i]! hb
   generalize hps : rdP l cuts f[i]! = ps at *
   generalize hee : rdE l f[i]! = ee at *
   have htk := fun k hk => seenL_take d.N ps (k := k) hk
   have hlk := fun k => seenL_len (d.N ++ ps.take k)
   generalize hqS : seenL d.S = q at *
   obtain ⟨km, bm⟩ := q
   dsimp only at *
   refine Trip.skip (Trip.seq (Trip.block (Trip.sR tblOk (by repeat' (first | exact rfl | exact idx_map _ _ _ (by show _ < _; first | omega | (simp only [List.length_map] at *; omega)) | ((with_reducible refine Side.mk ?_); (simp only [ln]; first | done | omega)) | constructor)) ?_)))
   refine Trip.seq (Trip.sR tblOk (by repeat' (first | exact rfl | (apply Rule.sem; intro hγ; with_reducible apply F_lookup (K := strK) (f := bV) (z := false) (zv := .bool false) tblOk hγ (hz := zBool) (hzf := fun _ _ _ => .v _ _)) | exact KeyLaw.str tblOk rfl rfl | ((with_reducible refine Side.mk ?_); omega) | constructor)) ?_)
   apply Trip.cond (.tmp rfl)
   ·intro h2
    have h2 : mval km bm false f[i]! = true := h2
    rw [hvm] at h2
    refine Trip.exit (Trip.R tblOk (by repeat' (first | exact rfl | ((with_reducible refine Side.mk ?_); omega) | constructor)) ?_)
    exact ⟨(i + 1, d), by exact ⟨by dsimp only; omega, hold h2⟩, by first | omega | (dsimp only at *; omega), Weak.kp (ho := by repeat' (first | exact rfl | (dsimp only; simp only [hqS]) | constructor)) (huo := by repeat' (first | exact rfl | (dsimp only; simp only [hqS]) | exact plainL_map _ (fun _ => rfl) _ | constructor))⟩
   intro h2
   have h2 : mval km bm false f[i]! = false := h2
   rw [hvm] at h2
   refine Trip.skip (Trip.sR tblOk (by repeat' (first | exact rfl | (apply Rule.sem; intro hγ; with_reducible apply F_call0 (x := .func 26) (B := []) hγ (hspec := c1)) | ((with_reducible refine Side.mk ?_); exact .inl rfl) | constructor)) ?_)
   refine Trip.seq (Trip.sr tblOk ?_)
   apply Trip.cond (.tmp rfl)
   ·intro h3
    have h3 : ee ≠ 0 := by simpa using h3
    have hbad := hbad h2 h3
    have hbd := hW.bad hk (by rw [hbad]; exact h3)
    rw [hbad] at hbd
    subst hbd
    refine Trip.sr tblOk ?_
    refine Trip.ret (rt3 [])
   intro h3
   have h3 : ee = 0 := by simpa using h3
   have hnew := hnew h2 h3
   refine Trip.skip (Trip.sR tblOk (by repeat' (first | exact rfl | (apply Rule.sem; intro hγ; with_reducible apply F_mapUpdate (K := strK) (f := bV) tblOk hγ) | exact KeyLaw.str tblOk rfl rfl | ((with_reducible refine Side.mk ?_); omega) | constructor)) ?_)
   refine Trip.seqk ⟨[(2, iV m), (3, .ref 3 0), (9, .mref 22), (10, .osl 901 0 (if (decide (k + 1 = m) && !ps.isEmpty) = true then d.C ++ [f[i]!] else d.C).length (if (decide (k + 1 = m) && !ps.isEmpty) = true then d.C ++ [f[i]!] else d.C).length), (12, iV k), (13, .mref 34), (16, .sl ps.isEmpty 1 (ps.map fun x => sV x)), (35, .sl fl 1 (f.map fun x => sV x)), (36, iV f.length), (37, iV i)], [(901, .arr 1 (if (decide (k + 1 = m) && !ps.isEmpty) = true then d.C ++ [f[i]!] else d.C).isEmpty ((if (decide (k + 1 = m) && !ps.isEmpty) = true then d.C ++ [f[i]!] else d.C).map fun x => sV x)), (22, .map ((mkeys km f[i]!).map strK) ((mset km bm f[i]! true).map fun b => bV b)), (34, .map ((seenL d.N).1.map strK) ((seenL d.N).2.map fun b => bV b)), (3, .box (Vw.cells ⟨nl, l, nr, rf, ng, lg, nc, cuts⟩))]⟩ ?_ ?_
   ·refine Trip.sR tblOk (by repeat' (first | exact rfl | ((with_reducible refine Side.mk ?_); first | omega | exact fun h => h | exact fun _ h => h) | constructor)) ?_
    apply Trip.cond (.tmp rfl)
    ·intro h4
     have h4 : (decide (k + 1 = m) && !ps.isEmpty) = true := by
      rw [Bool.and_eq_true, decide_eq_true_eq, decide_eq_true_eq] at h4
      rw [Bool.and_eq_true, decide_eq_true_eq, Bool.not_eq_true', List.isEmpty_eq_false_iff]
      exact ⟨by omega, by rintro rfl; simp at h4⟩
     rw [if_pos h4]
     refine Trip.R tblOk (by repeat' (first | exact rfl | ((with_reducible refine Side.mk ?_); (simp only [ln]; first | done | omega)) | constructor)) ?_
     exact Weak.kp (ht := by repeat' (first | exact rfl | (refine Side.mk (oslE ?_ ?_) <;> (simp only [ln]; first | done | omega)) | constructor)) (ho := by repeat' (first | exact rfl | exact arrF (by simp) (by simp) | constructor)) (huo := by repeat' (first | exact rfl | exact plainL_map _ (fun _ => rfl) _ | constructor))
    ·intro h4
     have h4 : ¬ (decide (k + 1 = m) && !ps.isEmpty) = true := fun e => by
      rw [Bool.and_eq_true, decide_eq_true_eq, Bool.not_eq_true', List.isEmpty_eq_false_iff] at e
      have := List.length_pos_iff.2 e.2
      rw [Bool.and_eq_false_iff, decide_eq_false_iff_not, decide_eq_false_iff_not, List.length_map] at h4
      omega
     rw [if_neg h4]
     refine Trip.skip ?_
     exact Weak.kp (huo := by repeat' (first | exact rfl | exact plainL_map _ (fun _ => rfl) _ | constructor))
   generalize (if (decide (k + 1 = m) && !ps.isEmpty) = true then d.C ++ [f[i]!] else d.C) = C2 at *
   refine Trip.sr tblOk ?_
   refine Trip.block ?_
   refine Trip.loop (fun (j : Nat) => ⟨[(2, iV m), (3, .ref 3 0), (9, .mref 22), (10, .osl 901 0 C2.length C2.length), (12, iV k), (13, .mref 34), (35, .sl fl 1 (f.map fun x => sV x)), (36, iV f.length), (37, iV i), (68, .sl ps.isEmpty 1 (ps.map fun x => sV x)), (69, iV ps.length), (70, iV j)], [(901, .arr 1 C2.isEmpty (C2.map fun x => sV x)), (22, .map ((mkeys km f[i]!).map strK) ((mset km bm f[i]! true).map fun b => bV b)), (34, .map ((seenL (d.N ++ ps.take j)).1.map strK) ((seenL (d.N ++ ps.take j)).2.map fun b => bV b)), (3, .box (Vw.cells ⟨nl, l, nr, rf, ng, lg, nc, cuts⟩))]⟩) (fun (j : Nat) => j ≤ ps.length) (fun (j : Nat) => ps.length - j) (0) (by first | omega | (simp; done)) (Weak.kp (ht := by repeat' (first | exact rfl | (refine Side.mk ?_; rw [List.take_zero, List.append_nil]) | (refine vI ?_; first | omega | (simp; done) | (simp; omega) | (simp only [List.length_map] at *; omega)) | constructor)) (ho := by repeat' (first | exact rfl | (refine Side.mk ?_; rw [List.take_zero, List.append_nil]) | constructor)) (huo := by repeat' (first | exact rfl | (refine Side.mk ?_; rw [List.take_zero, List.append_nil]) | exact plainL_map _ (fun _ => rfl) _ | constructor))) ?_
   intro j hj
   refine Trip.sr tblOk ?_
   refine Trip.seq ?_
   apply Trip.cond (.tmp rfl)
   ·intro h5
    have h5 : j < ps.length := by simp at h5; omega
    have htk := htk j h5
    have hlk := hlk j
    generalize hq2 : seenL (d.N ++ ps.take (j + 1)) = q2 at *
    generalize seenL (d.N ++ ps.take j) = q at *
    obtain ⟨kn, bn⟩ := q
    subst htk
    dsimp only at *
    refine Trip.skip (Trip.seq (Trip.block (Trip.sR tblOk (by repeat' (first | exact rfl | exact idx_map _ _ _ (by show _ < _; first | omega | (simp only [List.length_map] at *; omega)) | ((with_reducible refine Side.mk ?_); (simp only [ln]; first | done | omega)) | constructor)) ?_)))
    refine Trip.R tblOk (by repeat' (first | exact rfl | (apply Rule.sem; intro hγ; with_reducible apply F_mapUpdate (K := strK) (f := bV) tblOk hγ) | exact KeyLaw.str tblOk rfl rfl | ((with_reducible refine Side.mk ?_); omega) | constructor)) ?_
    refine Trip.R tblOk (by repeat' (first | exact rfl | ((with_reducible refine Side.mk ?_); omega) | constructor)) ?_
    exact ⟨j + 1, by first | omega | (dsimp only at *; omega), by first | omega | (dsimp only at *; omega), Weak.kp (ho := by repeat' (first | exact rfl | (rw [hq2]; rfl) | constructor)) (huo := by repeat' (first | exact rfl | exact plainL_map _ (fun _ => rfl) _ | constructor))⟩
   intro h5
   have h5 : j = ps.length := by simp at h5; omega
   subst h5
   rw [List.take_length]
   refine Trip.exit (Trip.R tblOk (by repeat' (first | exact rfl | ((with_reducible refine Side.mk ?_); omega) | constructor)) ?_)
   exact ⟨(i + 1, ⟨d.S ++ [f[i]!], C2, d.N ++ ps⟩), by exact ⟨by dsimp only; omega, hnew⟩, by first | omega | (dsimp only at *; omega), Weak.kp (ho := by repeat' (first | exact rfl | (dsimp only; simp only [hsn]) | constructor)) (huo := by repeat' (first | exact rfl | (dsimp only; simp only [hsn]) | exact plainL_map _ (fun _ => rfl) _ | constructor))⟩
  intro h
  have h : i = f.length := by simp at h; omega
  subst h
  refine Trip.exit ?_
  have hNm : ∀ x ∈ (seenL d.N).1, x ∈ allP l := fun x hx => flatP_all ((hI.n x).1 ((seenL_mem _ x).1 hx))
  have hNl : (seenL d.N).1.length ≤ l.length * 3000 := Nat.le_trans (nodup_len (seenL_nodup _) hNm) hall
  have k1 := cKeysM ((seenL d.N).1.map strK) ((seenL d.N).2.map fun b => bV b)
  have k2 := cSortedK (seenL d.N).1 (seenL_nodup _) (by omega) (fun x hx => by rw [allP_40 (hNm x hx)]; decide)
  have hW2 := hW.next hk hI (msort_asc (seenL_nodup d.N)) (fun x => by rw [msort_mem, seenL_mem])
  have hml := msort_len (seenL d.N).1
  have hmm := fun x => msort_mem (seenL d.N).1 x
  generalize seenL d.N = q at *
  obtain ⟨kn, bn⟩ := q
  dsimp only at *
  generalize msort kn = f' at *
  apply Trip.weak (S' := ⟨[(2, iV m), (3, .ref 3 0), (9, .mref 22), (10, .osl 901 0 d.C.length d.C.length), (12, iV k), (13, .mp false (kn.map strK) (bn.map fun b => bV b))], [(901, .arr 1 d.C.isEmpty (d.C.map fun x => sV x)), (22, .map ((seenL d.S).1.map strK) ((seenL d.S).2.map fun b => bV b)), (3, .box (Vw.cells ⟨nl, l, nr, rf, ng, lg, nc, cuts⟩))]⟩)
  ·refine Weak.turnM [34] rfl rfl ?_ ?_
   all_goals repeat' (first | exact rfl | exact plainL_map _ (fun _ => rfl) _ | (refine Side.mk ?_; simp only [List.length_map]; done) | constructor)
  refine Trip.R tblOk (by repeat' (first | exact rfl | (apply Rule.sem; intro hγ; with_reducible apply F_call0 (x := .func 28) (B := []) hγ (hspec := k1)) | (apply Rule.sem; intro hγ; with_reducible apply F_call0 (x := .func 27) (B := []) hγ (hspec := k2)) | exact .it | ((with_reducible refine Side.mk ?_); exact .inl rfl) | constructor)) ?_
  refine Trip.R tblOk (by repeat' (first | exact rfl | ((with_reducible refine Side.mk ?_); omega) | constructor)) ?_
  exact ⟨(k + 1, kn.isEmpty, f', d.S, d.C), by exact ⟨by dsimp only; omega, hW2, by dsimp only; omega, fun x hx => List.mem_append_right _ (hNm x ((hmm x).1 hx)), hdS⟩, by first | omega | (dsimp only at *; omega), Weak.kp (huo := by repeat' (first | exact rfl | exact plainL_map _ (fun _ => rfl) _ | constructor))⟩
 intro h
 have h : ¬ k < m ∨ f = [] := by
  rw [Bool.and_eq_false_iff, decide_eq_false_iff_not, decide_eq_false_iff_not, List.length_map] at h
  rcases h with h | h
  ·exact .inl (by omega)
  ·exact .inr (List.length_eq_zero_iff.1 (by omega))
 have hd := hW.done h
 have hSi := fun x => seenL_mem S x
 have k1 := cKeysM ((seenL S).1.map strK) ((seenL S).2.map fun b => bV b)
 have hKl : (seenL S).1.length ≤ 1000000000 := Nat.le_trans (nodup_len (seenL_nodup S) fun x hx => (hSi x).1 hx) (by omega)
 have k2 := cSortedK (seenL S).1 (seenL_nodup _) hKl (fun x hx => by
  have := rdE_len hid (hW.ok x ((hSi x).1 hx))
  exact Nat.le_trans this (by decide))
 rw [msort_sortS (seenL_nodup S) hSi, isEmpty_mem (b := sortS S) fun x => by rw [hSi, sortS_mem]] at k2
 have k3 := cSortedS C.isEmpty C (fun e => List.isEmpty_iff.1 e) hW.cnd (by omega)
 rw [msort_sortS hW.cnd (fun _ => Iff.rfl)] at k3
 have e3 : C.isEmpty = (sortS C).isEmpty := isEmpty_mem fun x => by rw [sortS_mem]
 rw [e3] at k3
 rw [e3]
 generalize sortS S = SS at *
 generalize sortS C = CC at *
 generalize (seenL S).1 = kn at *
 generalize (seenL S).2 = bn at *
 subst hd
 refine Trip.exit ?_
 apply Trip.weak (S' := ⟨[(9, .mp false (kn.map strK) (bn.map fun b => bV b)), (10, .sl CC.isEmpty 1 (C.map fun x => sV x))], [(3, .box (Vw.cells ⟨nl, l, nr, rf, ng, lg, nc, cuts⟩))]⟩)
 ·refine Weak.turnM [901, 22] rfl rfl ?_ ?_
  all_goals repeat' (first | exact rfl | exact plainL_map _ (fun _ => rfl) _ | (refine Side.mk ?_; simp only [List.length_map]; done) | constructor)
 refine Trip.sR tblOk (by repeat' (first | exact rfl | (apply Rule.sem; intro hγ; with_reducible apply F_call0 (x := .func 28) (B := []) hγ (hspec := k1)) | (apply Rule.sem; intro hγ; with_reducible apply F_call0 (x := .func 27) (B := []) hγ (hspec := k2)) | (apply Rule.sem; intro hγ; with_reducible apply F_call0 (x := .func 29) (B := []) hγ (hspec := k3)) | exact .it | ((with_reducible refine Side.mk ?_); exact .inl rfl) | constructor)) ?_
 refine Trip.ret (rt3 [])
end Go.Proofs.Tryz
namespace Go.Proofs.Tryz
open Go Go.Sym Go.Graft
set_option maxRecDepth 20000
theorem cKind (w : Str) : Ctr prog 102 [sV w] [] (iV (kindW w)) [] [] := by
 refine Ctr.enter tblOk func102 rfl (by decide) rfl (nt := 16) rfl rfl rfl rfl ?_
 refine Trip.sr tblOk ?_
 refine Trip.seq (Trip.sR tblOk (by repeat' (first | exact rfl | (apply Rule.sem; intro hγ; with_reducible apply F_call0 (x := .func 151) (B := []) hγ (hspec := cKinds)) | ((with_reducible refine Side.mk ?_); exact .inl rfl) | constructor)) ?_)
 refine Trip.block ?_
 refine Trip.loop (fun (i : Nat) => ⟨[(0, sV w), (5, .agg kindsPV), (6, iV i)], []⟩) (fun (i : Nat) => i ≤ 4 ∧ ∀ j : Nat, 1 ≤ j → j < i + 1 → wordK (j : Int) ≠ w) (fun (i : Nat) => 4 - i) (0) (by exact ⟨by omega, fun j h1 h2 => absurd h1 (by omega)⟩) Weak.kp ?_
 intro i hi
 obtain ⟨hi, hj⟩ := hi
 refine Trip.sr tblOk ?_
 refine Trip.seq ?_
 apply Trip.cond (.tmp rfl)
 ·intro h
  have h : i < 4 := by simp at h; omega
  have hpart := kinds_part i h
  obtain ⟨hkw, _⟩ := kindW_wordK (i + 1) (by omega) (by omega)
  have ec : (((i + 1 : Nat)) : Int) = (i : Int) + 1 := by omega
  rw [ec] at hkw
  have hw3 : wordK (((i + 1 : Nat)) : Int) = wordK ((i : Int) + 1) := by rw [ec]
  generalize hw2 : wordK ((i : Int) + 1) = w2 at *
  refine Trip.skip (Trip.seq (Trip.block (Trip.sR tblOk (by repeat' (first | exact rfl | (apply Rule.sem; intro hγ; with_reducible apply F_indexArr tblOk hγ) | exact hpart | ((with_reducible refine Side.mk ?_); omega) | constructor)) ?_)))
  refine Trip.sr tblOk ?_
  apply Trip.cond (.tmp rfl)
  ·intro h2
   have h2 : w2 = w := by simpa using h2
   rw [← h2, hkw]
   refine Trip.sr tblOk ?_
   refine Trip.ret (rt1 [])
  intro h2
  have h2 : ¬ w2 = w := by simpa using h2
  refine Trip.skip (Trip.R tblOk (by repeat' (first | exact rfl | ((with_reducible refine Side.mk ?_); omega) | constructor)) ?_)
  exact ⟨i + 1, by exact ⟨by omega, fun j h4 h3 => (Nat.lt_succ_iff_lt_or_eq.1 h3).elim (hj j h4) (fun e => by rw [e, hw3]; exact h2)⟩, by first | omega | (dsimp only at *; omega), Weak.kp⟩
 intro h
 have h : i = 4 := by simp at h; omega
 subst h
 refine Trip.exit ?_
 rw [kindW_none w hj]
 refine Trip.sr tblOk ?_
 refine Trip.ret (rt1 [])
end Go.Proofs.Tryz
namespace Go.Proofs.Tryz
open Go Go.Sym Go.Graft
set_option maxRecDepth 20000
set_option maxHeartbeats 1000000 in
theorem cParseTg (s : Str) (hs : s.length ≤ 100000000) : Ctr prog 64 [sV s] [] (.tup [(tgP s).2.pv, iV (tgP s).1]) [] [] := by
 have c1 := cIdR s kObj 0 (by omega)
 have d1 := lineR_le s kObj
 have v1 := lineV_le s kObj
 have hdef := tgP_def s
 dsimp only at hdef
 generalize tgP s = res at *
 generalize lineV s kObj = ob at *
 generalize lineR s kObj = s1 at *
 generalize rdId s 0 kObj = e1 at *
 have c2 := cLine s1 kTyp e1 (by omega)
 have d2 := lineR_le s1 kTyp
 have k2 := cKind (lineV s1 kTyp)
 have c3 := cFail (lineR s1 kTyp) (lnE s1 kTyp e1) 2
 generalize lineV s1 kTyp = w at *
 generalize lineR s1 kTyp = s2 at *
 generalize lnE s1 kTyp e1 = e1b at *
 generalize failE e1b 2 = e1f at *
 generalize kindW w = kw at *
 generalize he2 : (if kw = 0 then e1f else e1b) = e2 at *
 have c4 := cLine s2 kTag e2 (by omega)
 have d3 := lineR_le s2 kTag
 have v3 := lineV_le s2 kTag
 generalize lineV s2 kTag = nm at *
 generalize lineR s2 kTag = s3 at *
 generalize lnE s2 kTag e2 = e3 at *
 have c5 := cWhoR s3 kTgr e3 (by omega)
 have d4 := lineR_le s3 kTgr
 have v4 := lineV_le s3 kTgr
 have w1 := whoOf_len (lineV s3 kTgr)
 generalize lineV s3 kTgr = x at *
 generalize lineR s3 kTgr = s4 at *
 generalize rdWho s3 e3 kTgr = e4 at *
 have d5 := lineR_le s4 []
 have c6 := cLine s4 [] e4 (by omega)
 have c7 := cFail (lineR s4 []) (lnE s4 [] e4) 2
 generalize lineV s4 [] = v5 at *
 generalize lineR s4 [] = s5 at *
 generalize lnE s4 [] e4 = e5 at *
 generalize failE e5 2 = e5f at *
 generalize (whoOf x).2 = px at *
 have c8 := cTgE ⟨ob, kw, nm, px, s5⟩ (by simp only; omega) (by simp only; omega) (by simp only; omega) (by simp only; omega)
 generalize hce : tgE ⟨ob, kw, nm, px, s5⟩ = ce at *
 generalize he6 : (if v5 = [] then e5 else e5f) = e6 at *
 generalize he7 : (if e6 = 0 then ce else e6) = e7 at *
 refine Ctr.enter tblOk func64 rfl (by decide) rfl (nt := 58) rfl rfl rfl rfl ?_
 refine Trip.sr tblOk ?_
 refine Trip.sr tblOk ?_
 refine Trip.sR tblOk (by repeat' (first | exact rfl | (apply Rule.sem; intro hγ; with_reducible apply F_call (x := .func 96) (σ := [8]) (B := []) (news := []) hγ (hspec := c1)) | ((with_reducible refine Side.mk ?_); exact .inl rfl) | constructor)) ?_
 refine Trip.sR tblOk (by repeat' (first | exact rfl | (apply Rule.sem; intro hγ; with_reducible apply F_call (x := .func 99) (σ := [8]) (B := []) (news := []) hγ (hspec := c2)) | (apply Rule.sem; intro hγ; with_reducible apply F_call0 (x := .func 102) (B := []) hγ (hspec := k2)) | ((with_reducible refine Side.mk ?_); exact .inl rfl) | constructor)) ?_
 refine Trip.seqk ⟨[(2, .ref 2 0), (4, .ref 8 0), (5, .ref 5 0)], [(2, .box [sV [], iV 0, sV [], sV [], sV [], iV 0, iV 0, sV []]), (5, .box [sV ob, iV kw, sV [], sV [], sV [], iV 0, iV 0, sV []]), (8, .box [sV s2, iV e2])]⟩ ?_ ?_
 ·refine Trip.sr tblOk ?_
  apply Trip.cond (.tmp rfl)
  ·intro h
   have h : kw = 0 := by simpa using h
   rw [if_pos h] at he2
   subst he2
   refine Trip.R tblOk (by repeat' (first | exact rfl | (apply Rule.sem; intro hγ; with_reducible apply F_call (x := .func 100) (σ := [8]) (B := []) (news := []) hγ (hspec := c3)) | ((with_reducible refine Side.mk ?_); exact .inl rfl) | constructor)) ?_
   exact Weak.kp
  ·intro h
   have h : ¬ kw = 0 := by simpa using h
   rw [if_neg h] at he2
   subst he2
   refine Trip.skip ?_
   exact Weak.kp
 refine Trip.sR tblOk (by repeat' (first | exact rfl | (apply Rule.sem; intro hγ; with_reducible apply F_call (x := .func 99) (σ := [8]) (B := []) (news := []) hγ (hspec := c4)) | ((with_reducible refine Side.mk ?_); exact .inl rfl) | constructor)) ?_
 refine Trip.sR tblOk (by repeat' (first | exact rfl | (apply Rule.sem; intro hγ; with_reducible apply F_call (x := .func 98) (σ := [8]) (B := []) (news := []) hγ (hspec := c5)) | ((with_reducible refine Side.mk ?_); exact .inl rfl) | constructor)) ?_
 refine Trip.seqk ⟨[(2, .ref 2 0), (4, .ref 8 0), (5, .ref 5 0)], [(2, .box [sV [], iV 0, sV [], sV [], sV [], iV 0, iV 0, sV []]), (5, .box [sV ob, iV kw, sV nm, sV px.name, sV px.mail, iV px.time, iV px.zone, sV []]), (8, .box [sV s5, iV e6])]⟩ ?_ ?_
 ·refine Trip.sR tblOk (by repeat' (first | exact rfl | (apply Rule.sem; intro hγ; with_reducible apply F_call (x := .func 99) (σ := [8]) (B := []) (news := []) hγ (hspec := c6)) | ((with_reducible refine Side.mk ?_); exact .inl rfl) | constructor)) ?_
  apply Trip.cond (.tmp rfl)
  ·intro h
   have h : ¬ v5 = [] := by simpa using h
   rw [if_neg h] at he6
   subst he6
   refine Trip.R tblOk (by repeat' (first | exact rfl | (apply Rule.sem; intro hγ; with_reducible apply F_call (x := .func 100) (σ := [8]) (B := []) (news := []) hγ (hspec := c7)) | ((with_reducible refine Side.mk ?_); exact .inl rfl) | constructor)) ?_
   exact Weak.kp
  ·intro h
   have h : v5 = [] := by simpa using h
   rw [if_pos h] at he6
   subst he6
   refine Trip.skip ?_
   exact Weak.kp
 refine Trip.sR tblOk (by repeat' (first | exact rfl | (apply Rule.sem; intro hγ; with_reducible apply F_nilCheck hγ) | constructor)) ?_
 refine Trip.seqk ⟨[(2, .ref 2 0), (4, .ref 8 0), (5, .ref 5 0)], [(2, .box [sV [], iV 0, sV [], sV [], sV [], iV 0, iV 0, sV []]), (5, .box [sV ob, iV kw, sV nm, sV px.name, sV px.mail, iV px.time, iV px.zone, sV s5]), (8, .box [sV s5, iV e7])]⟩ ?_ ?_
 ·refine Trip.sR tblOk (by repeat' (first | exact rfl | (apply Rule.sem; intro hγ; with_reducible apply F_nilCheck hγ) | constructor)) ?_
  apply Trip.cond (.tmp rfl)
  ·intro h
   have h : e6 = 0 := by simpa using h
   rw [if_pos h] at he7
   subst he7
   refine Trip.R tblOk (by repeat' (first | exact rfl | (apply Rule.sem; intro hγ; with_reducible apply F_nilCheck hγ) | (apply Rule.sem; intro hγ; with_reducible apply F_call0 (x := .func 103) (B := []) hγ (hspec := c8)) | ((with_reducible refine Side.mk ?_); exact .inl rfl) | constructor)) ?_
   exact Weak.kp
  ·intro h
   have h : ¬ e6 = 0 := by simpa using h
   rw [if_neg h] at he7
   subst he7
   refine Trip.skip ?_
   exact Weak.kp
 refine Trip.seq (Trip.sR tblOk (by repeat' (first | exact rfl | (apply Rule.sem; intro hγ; with_reducible apply F_nilCheck hγ) | constructor)) ?_)
 apply Trip.cond (.tmp rfl)
 ·intro h
  have h : ¬ e7 = 0 := by simpa using h
  rw [if_neg h] at hdef
  subst hdef
  refine Trip.sD tblOk mixed (by repeat' (first | exact rfl | (apply Rule.sem; intro hγ; with_reducible apply F_nilCheck hγ) | constructor)) ?_
  refine Trip.ret (rt2 [])
 intro h
 have h : e7 = 0 := by simpa using h
 rw [if_pos h] at hdef
 subst hdef
 refine Trip.skip (Trip.sr tblOk ?_)
 refine Trip.ret (rt2 [])
end Go.Proofs.Tryz
namespace Go.Proofs.Tryz
open Go Go.Sym Go.Graft
set_option maxRecDepth 20000
theorem cLessE (x y : En) (h1 : x.name.length ≤ 1000000000) (h2 : y.name.length ≤ 1000000000) : Ctr prog 144 [x.pv, y.pv] [] (bV (Op.bytesLess x.key y.key)) [] [] := cLess _ _ _ _ _ _ (by omega) (by omega)
theorem cLessE15 (x y : En) (h1 : x.name.length ≤ 1000000000) (h2 : y.name.length ≤ 1000000000) : Ctr prog 113 [x.pv, y.pv] [] (bV (Op.bytesLess x.key y.key)) [] [] := cLess15 _ _ _ _ _ _ (by omega) (by omega)
theorem cCheck15 (nl : Bool) (l : List En) (hl : l.length ≤ 1000000000) (hn : ∀ x ∈ l, x.name.length ≤ 1000000000 ∧ x.id.length ≤ 1000000000) : Ctr prog 68 [.sl nl 3 (l.map En.pv)] [] (iV (checkE l)) [] [] := by
 refine Ctr.enter tblOk func68 rfl (by decide) rfl (nt := 51) rfl rfl rfl rfl ?_
 refine Trip.sr tblOk ?_
 refine Trip.seq (Trip.sr tblOk ?_)
 apply Trip.cond (.tmp rfl)
 ·intro h
  have h : 1024 < l.length := by simp at h; omega
  rw [checkE, if_pos h]
  refine Trip.sr tblOk ?_
  refine Trip.ret (rt1 [])
 intro h
 have hl2 : l.length ≤ 1024 := by simp at h; omega
 refine Trip.skip (Trip.seq (Trip.sr tblOk ?_))
 refine Trip.block ?_
 refine Trip.loop (fun (i : Nat) => ⟨[(0, .sl nl 3 (l.map En.pv)), (9, iV l.length), (10, iV i)], []⟩) (fun (i : Nat) => i ≤ l.length ∧ ∀ j, j < i → entE l j = 0) (fun (i : Nat) => l.length - i) (0) (by exact ⟨Nat.zero_le _, fun j hj => absurd hj (by omega)⟩) (Weak.kp (ht := by repeat' (first | exact rfl | (refine vI ?_; first | omega | (simp; done) | (simp; omega) | (simp only [List.length_map] at *; omega)) | constructor))) ?_
 intro i hi
 obtain ⟨hi, hj⟩ := hi
 refine Trip.sr tblOk ?_
 refine Trip.seq ?_
 apply Trip.cond (.tmp rfl)
 ·intro h
  have h : i < l.length := by simp at h; omega
  have hx := hn _ (bang_mem h)
  have c1 := cMay15 l[i]! hx.1 hx.2
  have hm1 := entE_may (l := l) (i := i)
  have hm2 := entE_sort (l := l) (i := i)
  have hm3 := entE_dup (l := l) (i := i)
  have hst := fun e he h0 => checkE_stop (e := e) hl2 h hj he h0
  generalize mayE l[i]! = my at *
  refine Trip.skip (Trip.seq (Trip.block (Trip.sr tblOk ?_)))
  refine Trip.seq (Trip.sR tblOk (by repeat' (first | exact rfl | (apply Rule.sem; intro hγ; with_reducible apply F_call0 (x := .func 112) (B := []) hγ (hspec := c1)) | exact idx_map _ _ _ (by show _ < _; first | omega | (simp only [List.length_map] at *; omega)) | ((with_reducible refine Side.mk ?_); first | exact .inl rfl | (simp only [ln]; first | done | omega)) | constructor)) ?_)
  apply Trip.cond (.tmp rfl)
  ·intro h2
   have h2 : my = false := by simpa using h2
   rw [hst 1 (hm1 h2) (by omega)]
   refine Trip.sr tblOk ?_
   refine Trip.ret (rt1 [])
  intro h2
  have h2 : my = true := by simpa using h2
  have hm2 := hm2 h2
  have hm3 := hm3 h2
  refine Trip.skip ?_
  have e1 : ((i : Int) - 1).toNat = i - 1 := by omega
  have hb : entBad2 l i = (decide (0 < (i : Int)) && !Op.bytesLess l[((i : Int) - 1).toNat]!.key l[i]!.key) := by rw [e1]; rfl
  have hx0 := hn _ (bang_mem (l := l) (i := i - 1) (by omega))
  have c2 := cLessE15 l[((i : Int) - 1).toNat]! l[i]! (by rw [e1]; exact hx0.1) hx.1
  refine Trip.seq (Trip.sD tblOk mixed (by repeat' (first | exact rfl | (apply Rule.under tblOk; intro hγ; with_reducible apply Rule.indexAddr) | exact idx_map _ _ _ (by have h2 := hγ; simp only [gpick, cond_true, cond_false, decide_eq_true_eq, Bool.and_eq_true, Bool.or_eq_true, Bool.not_eq_true', Bool.not_eq_false', Bool.or_eq_false_iff, decide_eq_false_iff_not, List.length_map] at h2; show _ < _; omega) | (apply Rule.sem; intro hγ; with_reducible apply F_call0 (x := .func 113) (B := []) hγ (hspec := c2)) | ((with_reducible refine Side.mk ?_); first | omega | exact .inl rfl | exact fun h => h | exact fun _ h => h | (simp only [ln]; first | done | omega) | exact fun _ => hγ | (have h2 := hγ; simp only [gpick, cond_true, cond_false, decide_eq_true_eq, Bool.and_eq_true, Bool.or_eq_true, Bool.not_eq_true', Bool.not_eq_false', Bool.or_eq_false_iff, decide_eq_false_iff_not, List.length_map] at h2; (try simp only [List.length_map]); omega)) | constructor)) ?_)
  apply Trip.cond (.tmp rfl)
  ·intro h3
   have h3 : entBad2 l i = true := by rw [hb]; simpa using h3
   rw [hst 150 (hm2 h3) (by omega)]
   refine Trip.sr tblOk ?_
   refine Trip.ret (rt1 [])
  intro h3
  have h3 : entBad2 l i = false := by rw [hb]; simpa using h3
  have hm3 := hm3 h3
  refine Trip.skip ?_
  have hnm : ∀ k, k < i → (l[k]!.name = l[i]!.name ↔ ((l.take i).map En.name)[k]! = l[i]!.name) := fun k hk => by
   rw [map_bang _ _ _ (by rw [List.length_take]; omega), getElem!_pos (l.take i) k (by rw [List.length_take]; omega), getElem!_pos l k (by omega), List.getElem_take]
  have hlt : ((l.take i).map En.name).length = i := by rw [List.length_map, List.length_take]; omega
  have hd1 := fun k (hk : k < i) h => hasS_true (l := (l.take i).map En.name) (i := k) (x := l[i]!.name) (by rw [hlt]; exact hk) ((hnm k hk).1 h)
  have hd2 := fun (h : ∀ k, k < i → l[k]!.name ≠ l[i]!.name) => hasS_false (l := (l.take i).map En.name) (x := l[i]!.name) fun k hk he => h k (by rw [hlt] at hk; exact hk) ((hnm k (by rw [hlt] at hk; exact hk)).2 he)
  generalize hasS ((l.take i).map En.name) l[i]!.name = du at *
  refine Trip.sr tblOk ?_
  refine Trip.block ?_
  refine Trip.loop (fun (k : Nat) => ⟨[(0, .sl nl 3 (l.map En.pv)), (3, iV i), (9, iV l.length), (10, iV i), (34, iV i), (35, iV k)], []⟩) (fun (k : Nat) => k ≤ i ∧ ∀ j, j < k → l[j]!.name ≠ l[i]!.name) (fun (k : Nat) => i - k) (0) (by exact ⟨Nat.zero_le _, fun j hj => absurd hj (by omega)⟩) Weak.kp ?_
  intro k hk
  obtain ⟨hk, hkj⟩ := hk
  refine Trip.sr tblOk ?_
  refine Trip.seq ?_
  apply Trip.cond (.tmp rfl)
  ·intro h4
   have h4 : k < i := by simp at h4; omega
   refine Trip.skip (Trip.seq (Trip.block (Trip.sr tblOk ?_)))
   refine Trip.sD tblOk mixed (by repeat' (first | exact rfl | exact idx_map _ _ _ (by show _ < _; first | omega | (simp only [List.length_map] at *; omega)) | ((with_reducible refine Side.mk ?_); (simp only [ln]; first | done | omega)) | constructor)) ?_
   apply Trip.cond (.tmp rfl)
   ·intro h5
    have h5 : l[k]!.name = l[i]!.name := by simpa using h5
    have hm3 : entE l i = 6 := by rw [hm3, if_pos (hd1 k h4 h5)]
    rw [hst 6 hm3 (by omega)]
    refine Trip.sr tblOk ?_
    refine Trip.ret (rt1 [])
   intro h5
   have h5 : ¬ l[k]!.name = l[i]!.name := by simpa using h5
   refine Trip.skip (Trip.R tblOk (by repeat' (first | exact rfl | ((with_reducible refine Side.mk ?_); omega) | constructor)) ?_)
   exact ⟨k + 1, by exact ⟨by omega, fun j h6 => (Nat.lt_succ_iff_lt_or_eq.1 h6).elim (hkj j) (fun e => e ▸ h5)⟩, by first | omega | (dsimp only at *; omega), Weak.kp⟩
  intro h4
  have h4 : k = i := by simp at h4; omega
  subst h4
  have hm3 : entE l k = 0 := by rw [hm3, hd2 hkj]; rfl
  refine Trip.exit (Trip.R tblOk (by repeat' (first | exact rfl | ((with_reducible refine Side.mk ?_); omega) | constructor)) ?_)
  exact ⟨k + 1, by exact ⟨by omega, fun j h6 => (Nat.lt_succ_iff_lt_or_eq.1 h6).elim (hj j) (fun e => e ▸ hm3)⟩, by first | omega | (dsimp only at *; omega), Weak.kp⟩
 intro h
 have h : i = l.length := by simp at h; omega
 subst h
 refine Trip.exit ?_
 rw [checkE_ok hl2 hj]
 refine Trip.sr tblOk ?_
 refine Trip.ret (rt1 [])
end Go.Proofs.Tryz
