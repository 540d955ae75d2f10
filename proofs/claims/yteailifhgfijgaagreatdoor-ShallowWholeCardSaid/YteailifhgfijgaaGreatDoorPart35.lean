/- A part of the proof: SymZM, We, Hq. -/
import Derived.Test.YteailifhgfijgaaGreatDoorPart34
set_option linter.unusedVariables false
set_option linter.unusedSimpArgs false
namespace Go.Sym
open Go.RowKit
inductive TurnM (S : St) (σ : List (Nat × Nat)) (B : List Nat) : List (Nat × PV) → Prop
 | nil : TurnM S σ B []
 | mref {t k : Nat} {r : List (Nat × PV)} : S.get t = some (.mref k) → look σ k = some k → TurnM S σ B r → TurnM S σ B ((t, .mref k) :: r)
 | cons {t : Nat} {p q : PV} {r : List (Nat × PV)} : S.get t = some q → ConvP S σ B q p → TurnM S σ B r → TurnM S σ B ((t, p) :: r)
theorem TurnM.get {S : St} {σ : List (Nat × Nat)} {B : List Nat} : ∀ {l : List (Nat × PV)}, TurnM S σ B l → ∀ t p, (t, p) ∈ l → ∃ q, S.get t = some q ∧ ((∃ k, q = .mref k ∧ p = .mref k ∧ look σ k = some k) ∨ ConvP S σ B q p)
 | _, .nil, t, p, h => by simp at h
 | _, .mref h1 h2 h3, t, p, h => by
  rcases List.mem_cons.1 h with h | h
  ·cases h; exact ⟨_, h1, .inl ⟨_, rfl, rfl, h2⟩⟩
  ·exact h3.get t p h
 | _, .cons h1 h2 h3, t, p, h => by
  rcases List.mem_cons.1 h with h | h
  ·cases h; exact ⟨_, h1, .inr h2⟩
  ·exact h3.get t p h
section
variable {P : Program} {T : Tbl} {fr : Fr} {S S' : St} {L L' : LMap} {a : Act} {w : World} {F F' : Nat → Prop}
theorem Weak.turnM {nt : Nat} (B : List Nat) (hp : S.o.all (fun x => Nat.blt x.1 PN || (S'.o.map (·.1)).contains x.1) = true) (hB : B.all (fun o => !(S'.o.map (·.1)).contains o) = true)
  (ht : TurnM S (idσ (S'.o.map (·.1))) B S'.t) (ho : TurnO S (idσ (S'.o.map (·.1))) B S'.o) : Weak nt S S' := by
 intro fr hnt L a w hR
 have hM := hR.mem
 let ns := S'.o.map (·.1)
 let L' : LMap := fun n => if ns.contains n then L n else none
 have hL : ∀ n, ns.contains n = true → ∀ l, L n = some l → L' n = some l := fun n hn l hl => by simp only [L', hn, if_true]; exact hl
 have hL2 : ∀ n l, L' n = some l → L n = some l ∧ ns.contains n = true := fun n l h => by
  simp only [L'] at h
  split at h
  ·rename_i hc; exact ⟨h, hc⟩
  ·simp at h
 have hF : ∀ b, ¬ fr.F L b → ¬ fr.F L' b := fun b hn h => by
  rcases h with h | ⟨n, l, h1, h2⟩
  ·exact hn (.inl h)
  ·exact hn (.inr ⟨n, l, (hL2 n l h1).1, h2⟩)
 have hBF : ∀ o, B.contains o = true → ∀ l b, L o = some l → l.blk = some b → ¬ fr.F L' b := fun o hoB l b hl hb h => by
  have hno := (List.all_eq_true.1 hB) o (by simpa using hoB)
  rcases h with h | ⟨n, l', h1, h2⟩
  ·exact (hM.place o l b hl hb).1 h
  ·obtain ⟨k1, k2⟩ := hL2 n l' h1
   have := hM.inj o n l l' b hl k1 hb h2
   subst this
   simp only [Bool.not_eq_true'] at hno
   exact absurd k2 (by show ¬ (S'.o.map (·.1)).contains o = true; rw [hno]; simp)
 have hσ : ∀ o o', look (idσ ns) o = some o' → ∀ l, L o = some l → L' o' = some l := fun o o' h l hl => by
  obtain ⟨rfl, h2⟩ := look_idσ h
  exact hL _ (by simpa using h2) l hl
 have hcv := conv_rep_all (L' := L') (F' := fr.F L') hM (σ := idσ ns) (B := B) hF hBF hσ
 have hcv1 := fun {p q} h x => @hcv.1 p q h x
 have hcvL : ∀ {cs ds : List PV}, ConvL S (idσ ns) B cs ds → ∀ b off, CellsAt w (fr.F L) L cs b off → CellsAt w (fr.F L') L' ds b off := by
  intro cs ds h
  induction ds generalizing cs with
  | nil => intro b off _ j c hj; simp at hj
  | cons d ds ih =>
   cases h with
   | cons g1 g2 =>
    intro b off hc j c hj
    cases j with
    | zero =>
     simp at hj; subst hj
     obtain ⟨x, k1, k2, k3⟩ := hc 0 _ rfl
     exact ⟨x, k1, k2, hcv1 g1 x k3⟩
    | succ j =>
     obtain ⟨x, k1, k2, k3⟩ := ih g2 b (off + 1) (fun j' c' hj' => by
      obtain ⟨y, m1, m2, m3⟩ := hc (j' + 1) c' (by simpa using hj')
      exact ⟨y, by rw [show off + 1 + j' = off + (j' + 1) by omega]; exact m1, by rw [show off + 1 + j' = off + (j' + 1) by omega]; exact m2, m3⟩) j c (by simpa using hj)
     exact ⟨x, by rw [show off + (j + 1) = off + 1 + j by omega]; exact k1, by rw [show off + (j + 1) = off + 1 + j by omega]; exact k2, k3⟩
 refine ⟨L', ⟨fun n ob hn => ?_, fun n l hn => ?_, fun n n' l l' b hn hn' hb hb' => hM.inj n n' l l' b (hL2 n l hn).1 (hL2 n' l' hn').1 hb hb', fun n l b hn hb => hM.place n l b (hL2 n l hn).1 hb, fun n l b hn hb => hM.kind n l b (hL2 n l hn).1 hb, hM.parLt, hM.xLt, hM.frame, fun n l h => ?_⟩, hR.nt, hR.defers, fun t p hp => ?_⟩
 ·have hmem := look_mem hn
  have hns : ns.contains n = true := by
   simp only [ns, List.contains_iff_mem, List.mem_map]
   exact ⟨_, hmem, rfl⟩
  obtain ⟨ob', hn2, hcase⟩ := ho.get n ob hmem
  obtain ⟨l, h1, h2⟩ := hM.objs n ob' hn2
  refine ⟨l, hL n hns l h1, ?_⟩
  rcases hcase with ⟨cs, ds, rfl, rfl, hc⟩ | ⟨sz, nl, es, _, rfl, rfl, ⟨rfl, hpl⟩ | ⟨hcv, hlen, hds⟩⟩ | ⟨rfl, rfl⟩ | ⟨ks, vs, rfl, rfl, hpl⟩
  ·cases l with
   | box b o' n' => exact ⟨h2.1.trans hc.get.1, hcvL hc _ _ h2.2⟩
   | arr => exact h2.elim
   | gone => exact h2.elim
   | map => exact h2.elim
   | iter => exact h2.elim
  ·cases l with
   | arr base n' cap sz' =>
    cases base with
    | none => exact h2
    | some bo =>
     obtain ⟨k1, k2, k3, k4, k5, k6, k7⟩ := h2
     refine ⟨k1, k2, k3, k4, k5, fun j c hj => ?_, k7⟩
     obtain ⟨x, m1, m2, m3⟩ := k6 j c hj
     obtain ⟨e, he, hce⟩ := List.mem_flatMap.1 (List.mem_of_getElem? hj)
     exact ⟨x, m1, m2, (m3.plain (plain_cells (plainL_mem hpl e he) c hce) L').mono (fun b s hx hn => ⟨hx, hF b hn⟩) (LExt.refl _)⟩
   | box => exact h2.elim
   | gone => exact h2.elim
   | map => exact h2.elim
   | iter => exact h2.elim
  ·cases l with
   | arr base n' cap sz' =>
    cases base with
    | none => exact ⟨h2.1, h2.2.1.trans hlen, h2.2.2.1, h2.2.2.2.1, hds, h2.2.2.2.2.2⟩
    | some bo =>
     obtain ⟨k1, k2, k3, k4, k5, k6, k7⟩ := h2
     exact ⟨k1, k2.trans hlen, k3, k4, hds, hcvL hcv _ _ k6, k7⟩
   | box => exact h2.elim
   | gone => exact h2.elim
   | map => exact h2.elim
   | iter => exact h2.elim
  ·cases l <;> exact h2
  ·cases l with
   | map b =>
    obtain ⟨es, clock, k1, k2, k3, k4, k5⟩ := h2
    exact ⟨es, clock, k1, k2, (rep_plain_all.2 k3 hpl L').mono (fun b s hx hn => ⟨hx, hF b hn⟩) (LExt.refl _), k4, k5⟩
   | _ => exact h2.elim
 ·obtain ⟨h1, h2⟩ := hL2 n l hn
  simp only [ns, List.contains_iff_mem, List.mem_map] at h2
  obtain ⟨⟨k, ob⟩, hmem, rfl⟩ := h2
  exact mem_look hmem
 ·obtain ⟨l', h1, h2⟩ := hM.lext n l h
  obtain ⟨ob, hob⟩ := hM.dom n l' h1
  have hmem := look_mem hob
  have hpn := hnt.2 n l h
  have := (List.all_eq_true.1 hp) _ hmem
  simp only [Bool.or_eq_true] at this
  rcases this with h3 | h3
  ·rw [Nat.blt_eq] at h3; omega
  ·exact ⟨l', hL n h3 l' h1, h2⟩
 ·have hmem := look_mem hp
  obtain ⟨q, g1, g2⟩ := ht.get t p hmem
  obtain ⟨x, h1, h2⟩ := hR.vals t q g1
  refine ⟨x, h1, ?_⟩
  rcases g2 with ⟨k, rfl, rfl, g3⟩ | g2
  ·cases h2 with
   | mref q1 q2 q3 => exact .mref (hσ k k g3 _ q1) q2 q3
  ·exact hcv1 g2 x h2
theorem F_lenC [Globs P] (hT : TOk P T) {S : St} {γ : Bool} (hγ : γ = true) {dst : Option Nat} {ty : Nat} {pos : String} {aft : Array Edge} {g : Option (Nat × Bool)} {t : TypeId} {x : Operand} {o off len n sz c e : Nat} {isnil : Bool} {es : List PV} {ti : TI} (hx : OpdO γ S x (.osl o off len n)) (hl : look T t = some ti) (htd : ti.d = .slice e) (ho : S.obj o = some (.arrc sz isnil es c)) (hs : Side (n = es.length)) :
  FStep P ⟨dst, .call { callee := .builtin .len, args := #[x], argTypes := #[t] }, ty, pos, aft, g⟩ S [o] ⟨iV len, []⟩ := by
 refine FStep.val fun fr S' L a w ht hn hR => ?_
 have hr := hx.rep hγ hR (ht x (by simp [Op.operands, Call.operands]))
 obtain ⟨base, hl', hcap, hnil, _, hcells⟩ := hR.arrc ((hn _ (by simp)).trans ho)
 obtain ⟨s1, s2⟩ := hr.osl_at hl' hs
 have hs' : n = es.length := hs
 have key : ∀ bs m c, a.eval x = .slice bs m c → (execOp a.eval ⟨dst, .call { callee := .builtin .len, args := #[x], argTypes := #[t] }, ty, pos, aft, g⟩).run P w = .ok (.value (goInt m)) w := fun bs m c hv => by
  simp only [execOp, resolve, Sem.run_bind, Sem.run_pure, Result.andThen_ok, invoke, builtin]
  simp [hv, Builtin.len_, run_underlying (und_slice hT hl htd)]
 cases base with
 | none =>
  simp only at hcells
  have h0 : len = 0 := by omega
  subst h0
  exact ⟨_, key _ _ _ s2, .v _ _⟩
 | some bo =>
  obtain ⟨b, off0⟩ := bo
  obtain ⟨ad, c', hv, hlc, hpos, hq0, hcc⟩ := s2
  exact ⟨_, key _ _ _ hv, .v _ _⟩
end
end Go.Sym
namespace Go.Proofs.Tryz
open Go Go.Sym Go.Graft
set_option maxRecDepth 20000
theorem msort_sortS {S T : List Str} (h : S.Nodup) (hm : ∀ x, x ∈ S ↔ x ∈ T) : msort S = sortS T := asc_unique (msort_asc h) (sortS_asc T) fun x => by rw [msort_mem, sortS_mem, hm]
theorem isEmpty_mem {a b : List Str} (h : ∀ x, x ∈ a ↔ x ∈ b) : a.isEmpty = b.isEmpty := by
 rw [Bool.eq_iff_iff, List.isEmpty_iff, List.isEmpty_iff, List.eq_nil_iff_forall_not_mem, List.eq_nil_iff_forall_not_mem]
 exact forall_congr' fun x => by rw [h]
set_option maxHeartbeats 2000000 in
theorem cDepthS (v : Vw) (nw : Bool) (wants : List Str) (n : Int) (hs : v.l.length ≤ 1000) (hc : v.cuts.length ≤ 1000000000) (hb : ∀ x ∈ v.l, x.body.length ≤ 3000) (hid : ∀ x ∈ v.l, x.id.length ≤ 1000000000) (hw : wants.length ≤ 1000) (hn : n ≤ 9223372036854775807) :
  Ctr prog 9 [v.pv, .sl nw 1 (wants.map fun x => sV x), iV n] [] (.tup [.sl (depAll v.l v.cuts wants n).1.isEmpty 1 ((depAll v.l v.cuts wants n).1.map fun x => sV x), .sl (depAll v.l v.cuts wants n).2.1.isEmpty 1 ((depAll v.l v.cuts wants n).2.1.map fun x => sV x), iV (depAll v.l v.cuts wants n).2.2]) [] [] := by
 have c1 := fun id => cParW v id (by omega) hc (fun x hx => by have := hb x hx; omega)
 have hD : depAll v.l v.cuts wants n = if n < 1 then ([], [], 1) else depR v.l v.cuts n.toNat wants [] := rfl
 obtain ⟨nl, l, nr, rf, ng, lg, nc, cuts⟩ := v
 dsimp only at *
 have hall := allP_len l hb
 generalize depAll l cuts wants n = D at *
 refine Ctr.enter tblOk func9 rfl (by decide) rfl (nt := 86) rfl rfl rfl rfl ?_
 refine Trip.sr tblOk ?_
 refine Trip.seq (Trip.sr tblOk ?_)
 apply Trip.cond (.tmp rfl)
 ·intro h
  have h : n < 1 := by simpa using h
  rw [if_pos h] at hD
  subst hD
  refine Trip.sr tblOk ?_
  refine Trip.ret (rt3 [])
 intro h
 have h : ¬ n < 1 := by simpa using h
 rw [if_neg h] at hD
 obtain ⟨m, hm⟩ : ∃ m : Nat, n = (m : Int) := ⟨n.toNat, by omega⟩
 subst hm
 rw [Int.toNat_natCast] at hD
 have hm1 : 1 ≤ m := by omega
 clear h
 refine Trip.skip (Trip.sR tblOk (by repeat' (first | exact rfl | (apply Rule.sem; intro hγ; with_reducible apply F_makeMap) | constructor)) ?_)
 refine Trip.sr tblOk ?_
 refine Trip.sr tblOk ?_
 refine Trip.seq (Trip.sr tblOk ?_)
 refine Trip.block ?_
 apply Trip.loop (fun (q : Nat × Bool × List Str × List Str × List Str) => ⟨[(2, iV m), (3, .ref 3 0), (9, .mref 22), (10, .osl 901 0 q.2.2.2.2.length q.2.2.2.2.length), (11, .sl q.2.1 1 (q.2.2.1.map fun x => sV x)), (12, iV q.1)], [(901, .arr 1 q.2.2.2.2.isEmpty (q.2.2.2.2.map fun x => sV x)), (22, .map ((seenL q.2.2.2.1).1.map strK) ((seenL q.2.2.2.1).2.map fun b => bV b)), (3, .box (Vw.cells ⟨nl, l, nr, rf, ng, lg, nc, cuts⟩))]⟩) (fun (q : Nat × Bool × List Str × List Str × List Str) => q.1 ≤ m ∧ DepW l cuts m D q.1 q.2.2.1 q.2.2.2.1 q.2.2.2.2 ∧ q.2.2.1.length ≤ 3000000 ∧ (∀ x ∈ q.2.2.1, x ∈ wants ++ allP l) ∧ (∀ x ∈ q.2.2.2.1, x ∈ wants ++ allP l)) (fun (q : Nat × Bool × List Str × List Str × List Str) => m - q.1) ((0, nw, wants, [], []))
 ·exact ⟨Nat.zero_le _, DepW.start hm1 hD.symm, by dsimp only; omega, fun x hx => List.mem_append_left _ hx, by simp⟩
 ·refine Weak.trans (S2 := ⟨[(2, iV m), (3, .ref 3 0), (9, .mref 22), (10, nilS), (11, .sl nw 1 (wants.map fun x => sV x)), (12, iV 0)], [(22, .map [] []), (3, .box (Vw.cells ⟨nl, l, nr, rf, ng, lg, nc, cuts⟩))]⟩) ?_ (Weak.trans (S2 := ⟨[(2, iV m), (3, .ref 3 0), (9, .mref 22), (10, .osl 901 0 0 0), (11, .sl nw 1 (wants.map fun x => sV x)), (12, iV 0)], [(901, .arr 1 true []), (22, .map [] []), (3, .box (Vw.cells ⟨nl, l, nr, rf, ng, lg, nc, cuts⟩))]⟩) ?_ ?_)
  ·exact Weak.kp
  ·exact Weak.adopt 901 1 rfl rfl (by repeat' (first | exact rfl | constructor)) (by repeat' (first | exact rfl | constructor))
  ·exact Weak.kp
 rintro ⟨k, fl, f, S, C⟩ ⟨hkm, hW, hfl, hfm, hSm⟩
 dsimp only at *
 have hSl : S.length ≤ 1000 + l.length * 3000 := by
  have := nodup_len hW.nd hSm
  rw [List.length_append] at this; omega
 have hCl : C.length ≤ S.length := nodup_len hW.cnd hW.csub
 refine Trip.seq (Trip.sR tblOk (by repeat' (first | exact rfl | ((with_reducible refine Side.mk ?_); first | exact fun h => h | exact fun _ h => h) | constructor)) ?_)
 apply Trip.cond (.tmp rfl)
 ·intro h
  have h : k < m ∧ f ≠ [] := by
   rw [Bool.and_eq_true, decide_eq_true_eq, decide_eq_true_eq] at h
   exact ⟨by omega, by rintro rfl; simp at h⟩
  obtain ⟨hk, hf0⟩ := h
  refine Trip.skip (Trip.seq (Trip.block (Trip.sR tblOk (by repeat' (first | exact rfl | (apply Rule.sem; intro hγ; with_reducible apply F_makeMap) | constructor)) ?_)))
  refine Trip.seq (Trip.sr tblOk ?_)
  refine Trip.block ?_
  refine Trip.loop (fun (q : Nat × Dep) => ⟨[(2, iV m), (3, .ref 3 0), (9, .mref 22), (10, .osl 901 0 q.2.C.length q.2.C.length), (12, iV k), (13, .mref 34), (35, .sl fl 1 (f.map fun x => sV x)), (36, iV f.length), (37, iV q.1)], [(901, .arr 1 q.2.C.isEmpty (q.2.C.map fun x => sV x)), (22, .map ((seenL q.2.S).1.map strK) ((seenL q.2.S).2.map fun b => bV b)), (34, .map ((seenL q.2.N).1.map strK) ((seenL q.2.N).2.map fun b => bV b)), (3, .box (Vw.cells ⟨nl, l, nr, rf, ng, lg, nc, cuts⟩))]⟩) (fun (q : Nat × Dep) => q.1 ≤ f.length ∧ DepI l cuts (decide (k + 1 = m)) f S C q.1 q.2) (fun (q : Nat × Dep) => f.length - q.1) ((0, ⟨S, C, []⟩)) (by exact ⟨Nat.zero_le _, hW.zero⟩) (Weak.kp (ht := by repeat' (first | exact rfl | (refine vI ?_; first | omega | (simp; done) | (simp; omega) | (simp only [List.length_map] at *; omega)) | constructor)) (huo := by repeat' (first | exact rfl | exact plainL_map _ (fun _ => rfl) _ | constructor))) ?_
  rintro ⟨i, d⟩ ⟨hi, hI⟩
  dsimp only at *
  have hdS : ∀ x ∈ d.S, x ∈ wants ++ allP l := fun x hx => by
   rcases (hI.s x).1 hx with k | k
   ·exact hSm x k
   ·exact hfm x (List.mem_of_mem_take (List.mem_filter.1 k).1)
  have hdSl : d.S.length ≤ 1000 + l.length * 3000 := by
   have := nodup_len hI.nd hdS
   rw [List.length_append] at this; omega
  have hdC : d.C.length ≤ d.S.length := nodup_len hI.cnd hI.csub
  have hlN := seenL_len d.N
  have hlS := seenL_len d.S
  refine Trip.sr tblOk ?_
  refine Trip.seq ?_
  apply Trip.cond (.tmp rfl)
  ·intro h
   have h : i < f.length := by simp at h; omega
   have c1 := c1 f[i]!
   have hvm := seenL_val d.S f[i]!
   have hold := hI.old h
   have hnew := hI.new h
   have hbad := hI.bad h
   have hsn := seenL_snoc d.S f[i]!
   have hpl := rdP_len l cuts f[i]! hb
   generalize hps : rdP l cuts f[i]! = ps at *
   generalize hee : rdE l f[i]! = ee at *
   have htk := fun k hk => seenL_take d.N ps (k := k) hk
   have hlk := fun k => seenL_len (d.N ++ ps.take k)
   generalize hqS : seenL d.S = q at *
   obtain ⟨km, bm⟩ := q
   dsimp only at *
   refine Trip.skip (Trip.seq (Trip.block (Trip.sR tblOk (by repeat' (first | exact rfl | exact idx_map _ _ _ (by show _ < _; first | omega | (simp only [List.length_map] at *; omega)) | ((with_reducible refine Side.mk ?_); (simp only [ln]; first | done | omega)) | constructor)) ?_)))
   refine Trip.seq (Trip.sR tblOk (by repeat' (first | exact rfl | (apply Rule.sem; intro hγ; with_reducible apply F_lookup (K := strK) (f := bV) (z := false) (zv := .bool false) tblOk hγ (hz := zBool) (hzf := fun _ _ _ => .v _ _)) | exact KeyLaw.str tblOk rfl rfl | ((with_reducible refine Side.mk ?_); omega) | constructor)) ?_)
   apply Trip.cond (.tmp rfl)
   ·intro h2
    have h2 : mval km bm false f[i]! = true := h2
    rw [hvm] at h2
    refine Trip.exit (Trip.R tblOk (by repeat' (first | exact rfl | ((with_reducible refine Side.mk ?_); omega) | constructor)) ?_)
    exact ⟨(i + 1, d), by exact ⟨by dsimp only; omega, hold h2⟩, by first | omega | (dsimp only at *; omega), Weak.kp (ho := by repeat' (first | exact rfl | (dsimp only; simp only [hqS]) | constructor)) (huo := by repeat' (first | exact rfl | (dsimp only; simp only [hqS]) | exact plainL_map _ (fun _ => rfl) _ | constructor))⟩
   intro h2
   have h2 : mval km bm false f[i]! = false := h2
   rw [hvm] at h2
   refine Trip.skip (Trip.sR tblOk (by repeat' (first | exact rfl | (apply Rule.sem; intro hγ; with_reducible apply F_call0 (x := .func 26) (B := []) hγ (hspec := c1)) | ((with_reducible refine Side.mk ?_); exact .inl rfl) | constructor)) ?_)
   refine Trip.seq (Trip.sr tblOk ?_)
   apply Trip.cond (.tmp rfl)
   ·intro h3
    have h3 : ee ≠ 0 := by simpa using h3
    have hbad := hbad h2 h3
    have hbd := hW.bad hk (by rw [hbad]; exact h3)
    rw [hbad] at hbd
    subst hbd
    refine Trip.sr tblOk ?_
    refine Trip.ret (rt3 [])
   intro h3
   have h3 : ee = 0 := by simpa using h3
   have hnew := hnew h2 h3
   refine Trip.skip (Trip.sR tblOk (by repeat' (first | exact rfl | (apply Rule.sem; intro hγ; with_reducible apply F_mapUpdate (K := strK) (f := bV) tblOk hγ) | exact KeyLaw.str tblOk rfl rfl | ((with_reducible refine Side.mk ?_); omega) | constructor)) ?_)
   refine Trip.seqk ⟨[(2, iV m), (3, .ref 3 0), (9, .mref 22), (10, .osl 901 0 (if (decide (k + 1 = m) && !ps.isEmpty) = true then d.C ++ [f[i]!] else d.C).length (if (decide (k + 1 = m) && !ps.isEmpty) = true then d.C ++ [f[i]!] else d.C).length), (12, iV k), (13, .mref 34), (16, .sl ps.isEmpty 1 (ps.map fun x => sV x)), (35, .sl fl 1 (f.map fun x => sV x)), (36, iV f.length), (37, iV i)], [(901, .arr 1 (if (decide (k + 1 = m) && !ps.isEmpty) = true then d.C ++ [f[i]!] else d.C).isEmpty ((if (decide (k + 1 = m) && !ps.isEmpty) = true then d.C ++ [f[i]!] else d.C).map fun x => sV x)), (22, .map ((mkeys km f[i]!).map strK) ((mset km bm f[i]! true).map fun b => bV b)), (34, .map ((seenL d.N).1.map strK) ((seenL d.N).2.map fun b => bV b)), (3, .box (Vw.cells ⟨nl, l, nr, rf, ng, lg, nc, cuts⟩))]⟩ ?_ ?_
   ·refine Trip.sR tblOk (by repeat' (first | exact rfl | ((with_reducible refine Side.mk ?_); first | omega | exact fun h => h | exact fun _ h => h) | constructor)) ?_
    apply Trip.cond (.tmp rfl)
    ·intro h4
     have h4 : (decide (k + 1 = m) && !ps.isEmpty) = true := by
      rw [Bool.and_eq_true, decide_eq_true_eq, decide_eq_true_eq] at h4
      rw [Bool.and_eq_true, decide_eq_true_eq, Bool.not_eq_true', List.isEmpty_eq_false_iff]
      exact ⟨by omega, by rintro rfl; simp at h4⟩
     rw [if_pos h4]
     refine Trip.R tblOk (by repeat' (first | exact rfl | ((with_reducible refine Side.mk ?_); (simp only [ln]; first | done | omega)) | constructor)) ?_
     exact Weak.kp (ht := by repeat' (first | exact rfl | (refine Side.mk (oslE ?_ ?_) <;> (simp only [ln]; first | done | omega)) | constructor)) (ho := by repeat' (first | exact rfl | exact arrF (by simp) (by simp) | constructor)) (huo := by repeat' (first | exact rfl | exact plainL_map _ (fun _ => rfl) _ | constructor))
    ·intro h4
     have h4 : ¬ (decide (k + 1 = m) && !ps.isEmpty) = true := fun e => by
      rw [Bool.and_eq_true, decide_eq_true_eq, Bool.not_eq_true', List.isEmpty_eq_false_iff] at e
      have := List.length_pos_iff.2 e.2
      rw [Bool.and_eq_false_iff, decide_eq_false_iff_not, decide_eq_false_iff_not, List.length_map] at h4
      omega
     rw [if_neg h4]
     refine Trip.skip ?_
     exact Weak.kp (huo := by repeat' (first | exact rfl | exact plainL_map _ (fun _ => rfl) _ | constructor))
   generalize (if (decide (k + 1 = m) && !ps.isEmpty) = true then d.C ++ [f[i]!] else d.C) = C2 at *
   refine Trip.sr tblOk ?_
   refine Trip.block ?_
   refine Trip.loop (fun (j : Nat) => ⟨[(2, iV m), (3, .ref 3 0), (9, .mref 22), (10, .osl 901 0 C2.length C2.length), (12, iV k), (13, .mref 34), (35, .sl fl 1 (f.map fun x => sV x)), (36, iV f.length), (37, iV i), (68, .sl ps.isEmpty 1 (ps.map fun x => sV x)), (69, iV ps.length), (70, iV j)], [(901, .arr 1 C2.isEmpty (C2.map fun x => sV x)), (22, .map ((mkeys km f[i]!).map strK) ((mset km bm f[i]! true).map fun b => bV b)), (34, .map ((seenL (d.N ++ ps.take j)).1.map strK) ((seenL (d.N ++ ps.take j)).2.map fun b => bV b)), (3, .box (Vw.cells ⟨nl, l, nr, rf, ng, lg, nc, cuts⟩))]⟩) (fun (j : Nat) => j ≤ ps.length) (fun (j : Nat) => ps.length - j) (0) (by first | omega | (simp; done)) (Weak.kp (ht := by repeat' (first | exact rfl | (refine Side.mk ?_; rw [List.take_zero, List.append_nil]) | (refine vI ?_; first | omega | (simp; done) | (simp; omega) | (simp only [List.length_map] at *; omega)) | constructor)) (ho := by repeat' (first | exact rfl | (refine Side.mk ?_; rw [List.take_zero, List.append_nil]) | constructor)) (huo := by repeat' (first | exact rfl | (refine Side.mk ?_; rw [List.take_zero, List.append_nil]) | exact plainL_map _ (fun _ => rfl) _ | constructor))) ?_
   intro j hj
   refine Trip.sr tblOk ?_
   refine Trip.seq ?_
   apply Trip.cond (.tmp rfl)
   ·intro h5
    have h5 : j < ps.length := by simp at h5; omega
    have htk := htk j h5
    have hlk := hlk j
    generalize hq2 : seenL (d.N ++ ps.take (j + 1)) = q2 at *
    generalize seenL (d.N ++ ps.take j) = q at *
    obtain ⟨kn, bn⟩ := q
    subst htk
    dsimp only at *
    refine Trip.skip (Trip.seq (Trip.block (Trip.sR tblOk (by repeat' (first | exact rfl | exact idx_map _ _ _ (by show _ < _; first | omega | (simp only [List.length_map] at *; omega)) | ((with_reducible refine Side.mk ?_); (simp only [ln]; first | done | omega)) | constructor)) ?_)))
    refine Trip.R tblOk (by repeat' (first | exact rfl | (apply Rule.sem; intro hγ; with_reducible apply F_mapUpdate (K := strK) (f := bV) tblOk hγ) | exact KeyLaw.str tblOk rfl rfl | ((with_reducible refine Side.mk ?_); omega) | constructor)) ?_
    refine Trip.R tblOk (by repeat' (first | exact rfl | ((with_reducible refine Side.mk ?_); omega) | constructor)) ?_
    exact ⟨j + 1, by first | omega | (dsimp only at *; omega), by first | omega | (dsimp only at *; omega), Weak.kp (ho := by repeat' (first | exact rfl | (rw [hq2]; rfl) | constructor)) (huo := by repeat' (first | exact rfl | exact plainL_map _ (fun _ => rfl) _ | constructor))⟩
   intro h5
   have h5 : j = ps.length := by simp at h5; omega
   subst h5
   rw [List.take_length]
   refine Trip.exit (Trip.R tblOk (by repeat' (first | exact rfl | ((with_reducible refine Side.mk ?_); omega) | constructor)) ?_)
   exact ⟨(i + 1, ⟨d.S ++ [f[i]!], C2, d.N ++ ps⟩), by exact ⟨by dsimp only; omega, hnew⟩, by first | omega | (dsimp only at *; omega), Weak.kp (ho := by repeat' (first | exact rfl | (dsimp only; simp only [hsn]) | constructor)) (huo := by repeat' (first | exact rfl | (dsimp only; simp only [hsn]) | exact plainL_map _ (fun _ => rfl) _ | constructor))⟩
  intro h
  have h : i = f.length := by simp at h; omega
  subst h
  refine Trip.exit ?_
  have hNm : ∀ x ∈ (seenL d.N).1, x ∈ allP l := fun x hx => flatP_all ((hI.n x).1 ((seenL_mem _ x).1 hx))
  have hNl : (seenL d.N).1.length ≤ l.length * 3000 := Nat.le_trans (nodup_len (seenL_nodup _) hNm) hall
  have k1 := cKeysM ((seenL d.N).1.map strK) ((seenL d.N).2.map fun b => bV b)
  have k2 := cSortedK (seenL d.N).1 (seenL_nodup _) (by omega) (fun x hx => by rw [allP_40 (hNm x hx)]; decide)
  have hW2 := hW.next hk hI (msort_asc (seenL_nodup d.N)) (fun x => by rw [msort_mem, seenL_mem])
  have hml := msort_len (seenL d.N).1
  have hmm := fun x => msort_mem (seenL d.N).1 x
  generalize seenL d.N = q at *
  obtain ⟨kn, bn⟩ := q
  dsimp only at *
  generalize msort kn = f' at *
  apply Trip.weak (S' := ⟨[(2, iV m), (3, .ref 3 0), (9, .mref 22), (10, .osl 901 0 d.C.length d.C.length), (12, iV k), (13, .mp false (kn.map strK) (bn.map fun b => bV b))], [(901, .arr 1 d.C.isEmpty (d.C.map fun x => sV x)), (22, .map ((seenL d.S).1.map strK) ((seenL d.S).2.map fun b => bV b)), (3, .box (Vw.cells ⟨nl, l, nr, rf, ng, lg, nc, cuts⟩))]⟩)
  ·refine Weak.turnM [34] rfl rfl ?_ ?_
   all_goals repeat' (first | exact rfl | exact plainL_map _ (fun _ => rfl) _ | (refine Side.mk ?_; simp only [List.length_map]; done) | constructor)
  refine Trip.R tblOk (by repeat' (first | exact rfl | (apply Rule.sem; intro hγ; with_reducible apply F_call0 (x := .func 28) (B := []) hγ (hspec := k1)) | (apply Rule.sem; intro hγ; with_reducible apply F_call0 (x := .func 27) (B := []) hγ (hspec := k2)) | exact .it | ((with_reducible refine Side.mk ?_); exact .inl rfl) | constructor)) ?_
  refine Trip.R tblOk (by repeat' (first | exact rfl | ((with_reducible refine Side.mk ?_); omega) | constructor)) ?_
  exact ⟨(k + 1, kn.isEmpty, f', d.S, d.C), by exact ⟨by dsimp only; omega, hW2, by dsimp only; omega, fun x hx => List.mem_append_right _ (hNm x ((hmm x).1 hx)), hdS⟩, by first | omega | (dsimp only at *; omega), Weak.kp (huo := by repeat' (first | exact rfl | exact plainL_map _ (fun _ => rfl) _ | constructor))⟩
 intro h
 have h : ¬ k < m ∨ f = [] := by
  rw [Bool.and_eq_false_iff, decide_eq_false_iff_not, decide_eq_false_iff_not, List.length_map] at h
  rcases h with h | h
  ·exact .inl (by omega)
  ·exact .inr (List.length_eq_zero_iff.1 (by omega))
 have hd := hW.done h
 have hSi := fun x => seenL_mem S x
 have k1 := cKeysM ((seenL S).1.map strK) ((seenL S).2.map fun b => bV b)
 have hKl : (seenL S).1.length ≤ 1000000000 := Nat.le_trans (nodup_len (seenL_nodup S) fun x hx => (hSi x).1 hx) (by omega)
 have k2 := cSortedK (seenL S).1 (seenL_nodup _) hKl (fun x hx => by
  have := rdE_len hid (hW.ok x ((hSi x).1 hx))
  exact Nat.le_trans this (by decide))
 rw [msort_sortS (seenL_nodup S) hSi, isEmpty_mem (b := sortS S) fun x => by rw [hSi, sortS_mem]] at k2
 have k3 := cSortedS C.isEmpty C (fun e => List.isEmpty_iff.1 e) hW.cnd (by omega)
 rw [msort_sortS hW.cnd (fun _ => Iff.rfl)] at k3
 have e3 : C.isEmpty = (sortS C).isEmpty := isEmpty_mem fun x => by rw [sortS_mem]
 rw [e3] at k3
 rw [e3]
 generalize sortS S = SS at *
 generalize sortS C = CC at *
 generalize (seenL S).1 = kn at *
 generalize (seenL S).2 = bn at *
 subst hd
 refine Trip.exit ?_
 apply Trip.weak (S' := ⟨[(9, .mp false (kn.map strK) (bn.map fun b => bV b)), (10, .sl CC.isEmpty 1 (C.map fun x => sV x))], [(3, .box (Vw.cells ⟨nl, l, nr, rf, ng, lg, nc, cuts⟩))]⟩)
 ·refine Weak.turnM [901, 22] rfl rfl ?_ ?_
  all_goals repeat' (first | exact rfl | exact plainL_map _ (fun _ => rfl) _ | (refine Side.mk ?_; simp only [List.length_map]; done) | constructor)
 refine Trip.sR tblOk (by repeat' (first | exact rfl | (apply Rule.sem; intro hγ; with_reducible apply F_call0 (x := .func 28) (B := []) hγ (hspec := k1)) | (apply Rule.sem; intro hγ; with_reducible apply F_call0 (x := .func 27) (B := []) hγ (hspec := k2)) | (apply Rule.sem; intro hγ; with_reducible apply F_call0 (x := .func 29) (B := []) hγ (hspec := k3)) | exact .it | ((with_reducible refine Side.mk ?_); exact .inl rfl) | constructor)) ?_
 refine Trip.ret (rt3 [])
end Go.Proofs.Tryz
namespace Go.Proofs.Tryz
open Go Go.Sym Go.Graft
set_option maxRecDepth 20000
theorem cKind (w : Str) : Ctr prog 102 [sV w] [] (iV (kindW w)) [] [] := by
 refine Ctr.enter tblOk func102 rfl (by decide) rfl (nt := 16) rfl rfl rfl rfl ?_
 refine Trip.sr tblOk ?_
 refine Trip.seq (Trip.sR tblOk (by repeat' (first | exact rfl | (apply Rule.sem; intro hγ; with_reducible apply F_call0 (x := .func 151) (B := []) hγ (hspec := cKinds)) | ((with_reducible refine Side.mk ?_); exact .inl rfl) | constructor)) ?_)
 refine Trip.block ?_
 refine Trip.loop (fun (i : Nat) => ⟨[(0, sV w), (5, .agg kindsPV), (6, iV i)], []⟩) (fun (i : Nat) => i ≤ 4 ∧ ∀ j : Nat, 1 ≤ j → j < i + 1 → wordK (j : Int) ≠ w) (fun (i : Nat) => 4 - i) (0) (by exact ⟨by omega, fun j h1 h2 => absurd h1 (by omega)⟩) Weak.kp ?_
 intro i hi
 obtain ⟨hi, hj⟩ := hi
 refine Trip.sr tblOk ?_
 refine Trip.seq ?_
 apply Trip.cond (.tmp rfl)
 ·intro h
  have h : i < 4 := by simp at h; omega
  have hpart := kinds_part i h
  obtain ⟨hkw, _⟩ := kindW_wordK (i + 1) (by omega) (by omega)
  have ec : (((i + 1 : Nat)) : Int) = (i : Int) + 1 := by omega
  rw [ec] at hkw
  have hw3 : wordK (((i + 1 : Nat)) : Int) = wordK ((i : Int) + 1) := by rw [ec]
  generalize hw2 : wordK ((i : Int) + 1) = w2 at *
  refine Trip.skip (Trip.seq (Trip.block (Trip.sR tblOk (by repeat' (first | exact rfl | (apply Rule.sem; intro hγ; with_reducible apply F_indexArr tblOk hγ) | exact hpart | ((with_reducible refine Side.mk ?_); omega) | constructor)) ?_)))
  refine Trip.sr tblOk ?_
  apply Trip.cond (.tmp rfl)
  ·intro h2
   have h2 : w2 = w := by simpa using h2
   rw [← h2, hkw]
   refine Trip.sr tblOk ?_
   refine Trip.ret (rt1 [])
  intro h2
  have h2 : ¬ w2 = w := by simpa using h2
  refine Trip.skip (Trip.R tblOk (by repeat' (first | exact rfl | ((with_reducible refine Side.mk ?_); omega) | constructor)) ?_)
  exact ⟨i + 1, by exact ⟨by omega, fun j h4 h3 => (Nat.lt_succ_iff_lt_or_eq.1 h3).elim (hj j h4) (fun e => by rw [e, hw3]; exact h2)⟩, by first | omega | (dsimp only at *; omega), Weak.kp⟩
 intro h
 have h : i = 4 := by simp at h; omega
 subst h
 refine Trip.exit ?_
 rw [kindW_none w hj]
 refine Trip.sr tblOk ?_
 refine Trip.ret (rt1 [])
end Go.Proofs.Tryz
