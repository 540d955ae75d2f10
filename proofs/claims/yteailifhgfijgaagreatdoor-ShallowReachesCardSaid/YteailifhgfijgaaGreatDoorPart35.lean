/- A part of the proof: Wd, GShy, SymZM. -/
import Derived.Test.YteailifhgfijgaaGreatDoorPart33
set_option linter.unusedVariables false
set_option linter.unusedSimpArgs false
namespace Go.Proofs.Tryz
open Go Go.Sym Go.Graft
set_option maxRecDepth 20000
theorem cCompactN (n : Nat) (nl : Bool) (l : List Str) (hn : n = l.length) (hs : l.length ≤ 1000000000) (ha : ∀ i, 1 ≤ i → i < l.length → l[i]! ≠ l[i - 1]!) :
  Ctr prog 57 [.osl PN 0 n n] [.arr 1 nl (l.map fun s => sV s)] (.osl PN 0 n n) [.arr 1 nl (l.map fun s => sV s)] [] := by
 subst hn
 refine Ctr.enter tblOk func57 rfl (by decide) rfl (nt := 61) rfl rfl rfl rfl ?_
 refine Trip.sr tblOk ?_
 refine Trip.seq (Trip.sR tblOk (by repeat' (first | exact rfl | ((with_reducible refine Side.mk ?_); (simp only [ln]; first | done | omega)) | constructor)) ?_)
 apply Trip.cond (.tmp rfl)
 ·intro h
  refine Trip.sr tblOk ?_
  refine Trip.ret ?_
  apply Ret1o
  ·repeat' (first | exact rfl | constructor)
  ·repeat' (first | exact rfl | constructor)
  ·repeat' (first | exact plainL_map _ (fun _ => rfl) _ | constructor)
  ·repeat' (first | exact rfl | constructor)
 intro h
 have h : 2 ≤ l.length := by simp at h; omega
 refine Trip.skip (Trip.seq (Trip.sr tblOk ?_))
 refine Trip.block ?_
 refine Trip.loop (fun (i : Nat) => ⟨[(0, .osl PN 0 l.length l.length), (3, iV i)], [(PN, .arr 1 nl (l.map fun s => sV s))]⟩) (fun (i : Nat) => 1 ≤ i ∧ i ≤ l.length) (fun (i : Nat) => l.length - i) (1) (by exact ⟨Nat.le_refl _, by omega⟩) (Weak.kp (huo := by repeat' (first | exact plainL_map _ (fun _ => rfl) _ | constructor))) ?_
 rintro i ⟨hi0, hi⟩
 refine Trip.seq (Trip.sR tblOk (by repeat' (first | exact rfl | ((with_reducible refine Side.mk ?_); (simp only [ln]; first | done | omega)) | constructor)) ?_)
 apply Trip.cond (.tmp rfl)
 ·intro h
  have h : i < l.length := by simp at h; omega
  have hne := ha i hi0 h
  refine Trip.skip (Trip.seq (Trip.block (Trip.sD tblOk mixed (by repeat' (first | exact rfl | exact idx_map _ _ _ (by show _ < _; first | omega | (simp only [List.length_map] at *; omega)) | ((with_reducible refine Side.mk ?_); first | omega | (simp only [ln]; first | done | omega)) | constructor)) ?_)))
  apply Trip.cond (.tmp rfl)
  ·intro h2
   refine absurd ?_ hne
   rw [getElem!_pos l i (by omega), getElem!_pos l (i - 1) (by omega)]
   rw [getElem!_pos l i (by omega), getElem!_pos l (i - 1) (by omega)] at hne
   have h2 : l[i]! = l[i - 1]! := by simpa using h2
   rw [getElem!_pos l i (by omega), getElem!_pos l (i - 1) (by omega)] at h2
   exact h2
  intro h2
  clear h2
  refine Trip.skip (Trip.R tblOk (by repeat' (first | exact rfl | ((with_reducible refine Side.mk ?_); omega) | constructor)) ?_)
  exact ⟨i + 1, by exact ⟨by omega, by omega⟩, by first | omega | (dsimp only at *; omega), Weak.kp (huo := by repeat' (first | exact plainL_map _ (fun _ => rfl) _ | constructor))⟩
 intro h
 have h : i = l.length := by simp at h; omega
 subst h
 refine Trip.exit (Trip.sr tblOk ?_)
 refine Trip.ret ?_
 apply Ret1o
 ·repeat' (first | exact rfl | constructor)
 ·repeat' (first | exact rfl | constructor)
 ·repeat' (first | exact plainL_map _ (fun _ => rfl) _ | constructor)
 ·repeat' (first | exact rfl | constructor)
theorem msort_adj {l : List Str} (h : l.Nodup) (i : Nat) (h1 : 1 ≤ i) (h2 : i < (msort l).length) : (msort l)[i]! ≠ (msort l)[i - 1]! := by
 have hn : (msort l).Nodup := asc_nodup (msort_asc h)
 rw [getElem!_pos _ i h2, getElem!_pos _ (i - 1) (by omega)]
 intro e
 have := (List.getElem_inj hn).1 e
 omega
theorem cSortedS (nl : Bool) (l : List Str) (hnl : nl = true → l = []) (hnd : l.Nodup) (hs : l.length ≤ 1000000000) :
  Ctr prog 29 [.sl nl 1 (l.map fun x => sV x)] [] (.sl nl 1 ((msort l).map fun x => sV x)) [] [] := by
 have c1 := cCloneS nl (l.map fun x => sV x) (by intro h; rw [hnl h]; rfl) (plainL_map _ (fun _ => rfl) _) (cellsOk_map _ (fun _ => rfl) _) (by rw [List.length_map]; omega)
 rw [List.length_map] at c1
 have c2 := cSortS l.length nl l rfl (by omega)
 have hml := msort_len l
 have c3 := cCompactN l.length nl (msort l) (by omega) (by omega) (msort_adj hnd)
 generalize msort l = m at *
 refine Ctr.enter tblOk func29 rfl (by decide) rfl (nt := 10) rfl rfl rfl rfl ?_
 refine Trip.sr tblOk ?_
 refine Trip.sR tblOk (by repeat' (first | exact rfl | (apply Rule.sem; intro hγ; with_reducible apply F_call (x := .func 34) (σ := []) (B := []) (news := [900]) hγ (hspec := c1)) | exact plainL_map _ (fun _ => rfl) _ | ((with_reducible refine Side.mk ?_); exact .inl rfl) | constructor)) ?_
 refine Trip.sR tblOk (by repeat' (first | exact rfl | (apply Rule.sem; intro hγ; with_reducible apply F_call (x := .func 55) (σ := [900]) (B := []) (news := []) hγ (hspec := c2)) | exact plainL_map _ (fun _ => rfl) _ | ((with_reducible refine Side.mk ?_); exact .inl rfl) | constructor)) ?_
 refine Trip.sR tblOk (by repeat' (first | exact rfl | (apply Rule.sem; intro hγ; with_reducible apply F_call (x := .func 57) (σ := [900]) (B := []) (news := []) hγ (hspec := c3)) | exact plainL_map _ (fun _ => rfl) _ | ((with_reducible refine Side.mk ?_); exact .inl rfl) | constructor)) ?_
 refine Trip.ret (rt1 [900] (hc := by repeat' (first | exact rfl | exact plainL_map _ (fun _ => rfl) _ | (refine Side.mk ?_; simp only [ln]; first | done | omega) | constructor)))
theorem cKeysM (ks : List Value) (vs : List PV) : Ctr prog 28 [.mp false ks vs] [] (.it 56 ks) [] [] :=
 Ctr.keys ⟨_, func28, rfl, rfl⟩ (fun mb w => Tryz.maps_Keys mb w) ks vs
theorem cSortedK (ks : List Str) (hnd : ks.Nodup) (hs : ks.length ≤ 1000000000) (hk : ∀ x ∈ ks, x.length ≤ maxLen) : Ctr prog 27 [.it 56 (ks.map strK)] [] (.sl ks.isEmpty 1 ((msort ks).map fun x => sV x)) [] [] :=
 Ctr.sorted (et := 9) ⟨_, func27, rfl, rfl⟩ rfl ks hnd hs hk fun c b nn D0 w hm hc hown hmax => Tryz.slices_Sorted c b nn D0 _ w hc hm hown (Nat.le_trans hmax (by decide)) (by omega)
end Go.Proofs.Tryz
namespace Go.Graft
open Go.Sym
theorem parsR_id : ∀ (f : Nat) (s : Str) (l : List Str), (∀ p ∈ l, isId p = true) → ∀ s2 l2, parsR f s l = some (s2, l2) → ∀ p ∈ l2, isId p = true
 | 0, s, l, hl, s2, l2, he => by
  rw [parsR] at he
  cases he
  exact hl
 | f + 1, s, l, hl, s2, l2, he => by
  rw [parsR] at he
  split at he
  ·split at he
   ·rename_i hx
    refine parsR_id f _ _ (fun p hp => ?_) s2 l2 he
    rw [List.mem_append, List.mem_singleton] at hp
    rcases hp with hp | rfl
    ·exact hl p hp
    ·exact hx
   ·simp at he
  ·cases he
   exact hl
theorem comR_id (s : Str) : ∀ p ∈ (comR s).2.pars, isId p = true := by
 rw [comR]
 split
 ·simp [zeroCom]
 split
 ·simp [zeroCom]
 ·rename_i s2 l h
  have h1 := parsR_id _ _ _ (by simp) s2 l h
  simp only []
  split
  ·simp [zeroCom]
  split
  ·simp [zeroCom]
  split
  ·exact h1
  ·simp [zeroCom]
theorem isId_40 {x : Str} (h : isId x = true) : x.length = 40 := by
 rw [isId, Bool.and_eq_true, decide_eq_true_eq] at h
 exact h.1
theorem allP_40 {l : List It} {x : Str} (h : x ∈ allP l) : x.length = 40 := by
 obtain ⟨it, _, h⟩ := List.mem_flatMap.1 h
 rw [com_same] at h
 exact isId_40 (comR_id _ x h)
theorem rdE_len {l : List It} {x : Str} {B : Nat} (hid : ∀ y ∈ l, y.id.length ≤ B) (h : rdE l x = 0) : x.length ≤ B := by
 have hp := placed_lt (rdE_placed h)
 have := hid _ (bang_mem hp.1)
 rw [hp.2] at this
 exact this
theorem fresh_nil (f : List Str) : fresh [] f = f := by simp [fresh, hasS]
theorem seenL_take (N p : List Str) {k : Nat} (h : k < p.length) : seenL (N ++ p.take (k + 1)) = (mkeys (seenL (N ++ p.take k)).1 p[k]!, mset (seenL (N ++ p.take k)).1 (seenL (N ++ p.take k)).2 p[k]! true) := by
 rw [take_snoc p k h, ← List.append_assoc, seenL_snoc]
theorem seenL_nd {S : List Str} (h : S.Nodup) : (seenL S).1 = S := by
 have key : ∀ i, i ≤ S.length → (seenN S i).1 = S.take i := by
  intro i
  induction i with
  | zero => intro _; rfl
  | succ i ih =>
   intro hi
   rw [seenN, ih (by omega), take_snoc S i (by omega)]
   have hx : S[i]! ∉ S.take i := fun k => by
    obtain ⟨j, hj, e⟩ := List.mem_iff_getElem.1 k
    rw [List.getElem_take, getElem!_pos S i (by omega)] at e
    have := (List.getElem_inj h).1 e
    rw [List.length_take] at hj
    omega
   show mkeys (S.take i) S[i]! = _
   rw [mkeys, kidx_none.2 hx]
 rw [seenL, key _ (Nat.le_refl _), List.take_length]
structure DepW (l : List It) (cuts : List Str) (m : Nat) (D : List Str × List Str × Int) (k : Nat) (f S C : List Str) : Prop where
 nd : S.Nodup
 cnd : C.Nodup
 csub : ∀ x ∈ C, x ∈ S
 ok : ∀ x ∈ S, rdE l x = 0
 dep : if k < m then C = [] ∧ depR l cuts (m - k) (fresh S f) (sortS S) = D else D = (sortS S, sortS C, 0)
theorem DepW.start {l : List It} {cuts wants : List Str} {m : Nat} {D : List Str × List Str × Int} (hm : 1 ≤ m) (h : depR l cuts m wants [] = D) : DepW l cuts m D 0 wants [] [] :=
 ⟨List.nodup_nil, List.nodup_nil, by simp, by simp, by rw [if_pos (by omega), fresh_nil]; exact ⟨rfl, h⟩⟩
theorem DepW.zero {l : List It} {cuts f S C : List Str} {m k : Nat} {D : List Str × List Str × Int} (h : DepW l cuts m D k f S C) : DepI l cuts (decide (k + 1 = m)) f S C 0 ⟨S, C, []⟩ := .zero h.nd h.cnd h.csub
theorem DepW.bad {l : List It} {cuts f S C : List Str} {m k : Nat} {D : List Str × List Str × Int} (h : DepW l cuts m D k f S C) (hk : k < m) (he : errF l (fresh S f) ≠ 0) : D = ([], [], errF l (fresh S f)) := by
 have h1 := h.dep
 rw [if_pos hk] at h1
 have hne : fresh S f ≠ [] := fun e => by rw [e] at he; exact he rfl
 rw [← h1.2, show m - k = m - k - 1 + 1 by omega, depR, if_neg hne, if_pos he]
theorem DepW.next {l : List It} {cuts f f' S C : List Str} {m k : Nat} {D : List Str × List Str × Int} {d : Dep} (h : DepW l cuts m D k f S C) (hk : k < m) (hd : DepI l cuts (decide (k + 1 = m)) f S C f.length d) (hf : asc f') (hf' : ∀ x, x ∈ f' ↔ x ∈ d.N) : DepW l cuts m D (k + 1) f' d.S d.C := by
 have h1 := h.dep
 rw [if_pos hk] at h1
 obtain ⟨hC, h1⟩ := h1
 subst hC
 obtain ⟨s, c, n, e, nd, cnd, csub⟩ := hd
 rw [List.take_length] at s c n e
 refine ⟨nd, cnd, csub, fun x hx => ((s x).1 hx).elim (h.ok x) ((errF_zero l).1 e x), ?_⟩
 by_cases hne : fresh S f = []
 ·have hS : sortS d.S = sortS S := sortS_uniq fun x => by rw [s, hne]; simp
  have hC : d.C = [] := by
   rw [List.eq_nil_iff_forall_not_mem]
   intro x hx
   have := (c x).1 hx
   rw [hne] at this
   simp at this
  have hf2 : f' = [] := by
   rw [List.eq_nil_iff_forall_not_mem]
   intro x hx
   have := (n x).1 ((hf' x).1 hx)
   rw [hne] at this
   simp [flatP] at this
  rw [depR_none hne] at h1
  rw [hC, hf2, hS, ← h1]
  split
  ·exact ⟨rfl, by rw [← hS]; exact depR_none rfl⟩
  ·rfl
 by_cases hl : k + 1 = m
 ·rw [if_neg (by omega)]
  rw [show m - k = 0 + 1 by omega, depR, if_neg hne, if_neg (by simp [e]), if_pos rfl] at h1
  rw [← h1, show sortS (sortS S ++ fresh S f) = sortS d.S from sortS_uniq fun x => by rw [List.mem_append, sortS_mem, s], endsR]
  rw [show sortS d.C = sortS ((fresh S f).filter fun x => !(rdP l cuts x).isEmpty) from sortS_uniq fun x => by
   rw [c, List.mem_filter, decide_eq_true hl, Bool.not_eq_true', List.isEmpty_eq_false_iff]; simp]
 ·have hC : d.C = [] := by
   rw [List.eq_nil_iff_forall_not_mem]
   intro x hx
   have := (c x).1 hx
   rw [decide_eq_false hl] at this
   simp at this
  rw [if_pos (by omega)]
  refine ⟨hC, ?_⟩
  rw [← h1, show m - k = m - (k + 1) + 1 by omega]
  exact (depR_next s n hf hf' e hne (by omega)).symm
theorem DepW.done {l : List It} {cuts f S C : List Str} {m k : Nat} {D : List Str × List Str × Int} (h : DepW l cuts m D k f S C) (hk : ¬ k < m ∨ f = []) : D = (sortS S, sortS C, 0) := by
 have h1 := h.dep
 split at h1
 ·rename_i h2
  have hf := hk.resolve_left fun k => k h2
  subst hf
  rw [h1.1, ← h1.2]
  exact depR_none rfl
 ·exact h1
end Go.Graft
namespace Go.Sym
open Go.RowKit
inductive TurnM (S : St) (σ : List (Nat × Nat)) (B : List Nat) : List (Nat × PV) → Prop
 | nil : TurnM S σ B []
 | mref {t k : Nat} {r : List (Nat × PV)} : S.get t = some (.mref k) → look σ k = some k → TurnM S σ B r → TurnM S σ B ((t, .mref k) :: r)
 | cons {t : Nat} {p q : PV} {r : List (Nat × PV)} : S.get t = some q → ConvP S σ B q p → TurnM S σ B r → TurnM S σ B ((t, p) :: r)
theorem TurnM.get {S : St} {σ : List (Nat × Nat)} {B : List Nat} : ∀ {l : List (Nat × PV)}, TurnM S σ B l → ∀ t p, (t, p) ∈ l → ∃ q, S.get t = some q ∧ ((∃ k, q = .mref k ∧ p = .mref k ∧ look σ k = some k) ∨ ConvP S σ B q p)
 | _, .nil, t, p, h => by simp at h
 | _, .mref h1 h2 h3, t, p, h => by
  rcases List.mem_cons.1 h with h | h
  ·cases h; exact ⟨_, h1, .inl ⟨_, rfl, rfl, h2⟩⟩
  ·exact h3.get t p h
 | _, .cons h1 h2 h3, t, p, h => by
  rcases List.mem_cons.1 h with h | h
  ·cases h; exact ⟨_, h1, .inr h2⟩
  ·exact h3.get t p h
section
variable {P : Program} {T : Tbl} {fr : Fr} {S S' : St} {L L' : LMap} {a : Act} {w : World} {F F' : Nat → Prop}
theorem Weak.turnM {nt : Nat} (B : List Nat) (hp : S.o.all (fun x => Nat.blt x.1 PN || (S'.o.map (·.1)).contains x.1) = true) (hB : B.all (fun o => !(S'.o.map (·.1)).contains o) = true)
  (ht : TurnM S (idσ (S'.o.map (·.1))) B S'.t) (ho : TurnO S (idσ (S'.o.map (·.1))) B S'.o) : Weak nt S S' := by
 intro fr hnt L a w hR
 have hM := hR.mem
 let ns := S'.o.map (·.1)
 let L' : LMap := fun n => if ns.contains n then L n else none
 have hL : ∀ n, ns.contains n = true → ∀ l, L n = some l → L' n = some l := fun n hn l hl => by simp only [L', hn, if_true]; exact hl
 have hL2 : ∀ n l, L' n = some l → L n = some l ∧ ns.contains n = true := fun n l h => by
  simp only [L'] at h
  split at h
  ·rename_i hc; exact ⟨h, hc⟩
  ·simp at h
 have hF : ∀ b, ¬ fr.F L b → ¬ fr.F L' b := fun b hn h => by
  rcases h with h | ⟨n, l, h1, h2⟩
  ·exact hn (.inl h)
  ·exact hn (.inr ⟨n, l, (hL2 n l h1).1, h2⟩)
 have hBF : ∀ o, B.contains o = true → ∀ l b, L o = some l → l.blk = some b → ¬ fr.F L' b := fun o hoB l b hl hb h => by
  have hno := (List.all_eq_true.1 hB) o (by simpa using hoB)
  rcases h with h | ⟨n, l', h1, h2⟩
  ·exact (hM.place o l b hl hb).1 h
  ·obtain ⟨k1, k2⟩ := hL2 n l' h1
   have := hM.inj o n l l' b hl k1 hb h2
   subst this
   simp only [Bool.not_eq_true'] at hno
   exact absurd k2 (by show ¬ (S'.o.map (·.1)).contains o = true; rw [hno]; simp)
 have hσ : ∀ o o', look (idσ ns) o = some o' → ∀ l, L o = some l → L' o' = some l := fun o o' h l hl => by
  obtain ⟨rfl, h2⟩ := look_idσ h
  exact hL _ (by simpa using h2) l hl
 have hcv := conv_rep_all (L' := L') (F' := fr.F L') hM (σ := idσ ns) (B := B) hF hBF hσ
 have hcv1 := fun {p q} h x => @hcv.1 p q h x
 have hcvL : ∀ {cs ds : List PV}, ConvL S (idσ ns) B cs ds → ∀ b off, CellsAt w (fr.F L) L cs b off → CellsAt w (fr.F L') L' ds b off := by
  intro cs ds h
  induction ds generalizing cs with
  | nil => intro b off _ j c hj; simp at hj
  | cons d ds ih =>
   cases h with
   | cons g1 g2 =>
    intro b off hc j c hj
    cases j with
    | zero =>
     simp at hj; subst hj
     obtain ⟨x, k1, k2, k3⟩ := hc 0 _ rfl
     exact ⟨x, k1, k2, hcv1 g1 x k3⟩
    | succ j =>
     obtain ⟨x, k1, k2, k3⟩ := ih g2 b (off + 1) (fun j' c' hj' => by
      obtain ⟨y, m1, m2, m3⟩ := hc (j' + 1) c' (by simpa using hj')
      exact ⟨y, by rw [show off + 1 + j' = off + (j' + 1) by omega]; exact m1, by rw [show off + 1 + j' = off + (j' + 1) by omega]; exact m2, m3⟩) j c (by simpa using hj)
     exact ⟨x, by rw [show off + (j + 1) = off + 1 + j by omega]; exact k1, by rw [show off + (j + 1) = off + 1 + j by omega]; exact k2, k3⟩
 refine ⟨L', ⟨fun n ob hn => ?_, fun n l hn => ?_, fun n n' l l' b hn hn' hb hb' => hM.inj n n' l l' b (hL2 n l hn).1 (hL2 n' l' hn').1 hb hb', fun n l b hn hb => hM.place n l b (hL2 n l hn).1 hb, fun n l b hn hb => hM.kind n l b (hL2 n l hn).1 hb, hM.parLt, hM.xLt, hM.frame, fun n l h => ?_⟩, hR.nt, hR.defers, fun t p hp => ?_⟩
 ·have hmem := look_mem hn
  have hns : ns.contains n = true := by
   simp only [ns, List.contains_iff_mem, List.mem_map]
   exact ⟨_, hmem, rfl⟩
  obtain ⟨ob', hn2, hcase⟩ := ho.get n ob hmem
  obtain ⟨l, h1, h2⟩ := hM.objs n ob' hn2
  refine ⟨l, hL n hns l h1, ?_⟩
  rcases hcase with ⟨cs, ds, rfl, rfl, hc⟩ | ⟨sz, nl, es, _, rfl, rfl, ⟨rfl, hpl⟩ | ⟨hcv, hlen, hds⟩⟩ | ⟨rfl, rfl⟩ | ⟨ks, vs, rfl, rfl, hpl⟩
  ·cases l with
   | box b o' n' => exact ⟨h2.1.trans hc.get.1, hcvL hc _ _ h2.2⟩
   | arr => exact h2.elim
   | gone => exact h2.elim
   | map => exact h2.elim
  ·cases l with
   | arr base n' cap sz' =>
    cases base with
    | none => exact h2
    | some bo =>
     obtain ⟨k1, k2, k3, k4, k5, k6, k7⟩ := h2
     refine ⟨k1, k2, k3, k4, k5, fun j c hj => ?_, k7⟩
     obtain ⟨x, m1, m2, m3⟩ := k6 j c hj
     obtain ⟨e, he, hce⟩ := List.mem_flatMap.1 (List.mem_of_getElem? hj)
     exact ⟨x, m1, m2, (m3.plain (plain_cells (plainL_mem hpl e he) c hce) L').mono (fun b s hx hn => ⟨hx, hF b hn⟩) (LExt.refl _)⟩
   | box => exact h2.elim
   | gone => exact h2.elim
   | map => exact h2.elim
  ·cases l with
   | arr base n' cap sz' =>
    cases base with
    | none => exact ⟨h2.1, h2.2.1.trans hlen, h2.2.2.1, h2.2.2.2.1, hds, h2.2.2.2.2.2⟩
    | some bo =>
     obtain ⟨k1, k2, k3, k4, k5, k6, k7⟩ := h2
     exact ⟨k1, k2.trans hlen, k3, k4, hds, hcvL hcv _ _ k6, k7⟩
   | box => exact h2.elim
   | gone => exact h2.elim
   | map => exact h2.elim
  ·cases l <;> exact h2
  ·cases l with
   | map b =>
    obtain ⟨es, clock, k1, k2, k3, k4, k5⟩ := h2
    exact ⟨es, clock, k1, k2, (rep_plain_all.2 k3 hpl L').mono (fun b s hx hn => ⟨hx, hF b hn⟩) (LExt.refl _), k4, k5⟩
   | _ => exact h2.elim
 ·obtain ⟨h1, h2⟩ := hL2 n l hn
  simp only [ns, List.contains_iff_mem, List.mem_map] at h2
  obtain ⟨⟨k, ob⟩, hmem, rfl⟩ := h2
  exact mem_look hmem
 ·obtain ⟨l', h1, h2⟩ := hM.lext n l h
  obtain ⟨ob, hob⟩ := hM.dom n l' h1
  have hmem := look_mem hob
  have hpn := hnt.2 n l h
  have := (List.all_eq_true.1 hp) _ hmem
  simp only [Bool.or_eq_true] at this
  rcases this with h3 | h3
  ·rw [Nat.blt_eq] at h3; omega
  ·exact ⟨l', hL n h3 l' h1, h2⟩
 ·have hmem := look_mem hp
  obtain ⟨q, g1, g2⟩ := ht.get t p hmem
  obtain ⟨x, h1, h2⟩ := hR.vals t q g1
  refine ⟨x, h1, ?_⟩
  rcases g2 with ⟨k, rfl, rfl, g3⟩ | g2
  ·cases h2 with
   | mref q1 q2 q3 => exact .mref (hσ k k g3 _ q1) q2 q3
  ·exact hcv1 g2 x h2
theorem F_lenC [Globs P] (hT : TOk P T) {S : St} {γ : Bool} (hγ : γ = true) {dst : Option Nat} {ty : Nat} {pos : String} {aft : Array Edge} {g : Option (Nat × Bool)} {t : TypeId} {x : Operand} {o off len n sz c e : Nat} {isnil : Bool} {es : List PV} {ti : TI} (hx : OpdO γ S x (.osl o off len n)) (hl : look T t = some ti) (htd : ti.d = .slice e) (ho : S.obj o = some (.arrc sz isnil es c)) (hs : Side (n = es.length)) :
  FStep P ⟨dst, .call { callee := .builtin .len, args := #[x], argTypes := #[t] }, ty, pos, aft, g⟩ S [o] ⟨iV len, []⟩ := by
 refine FStep.val fun fr S' L a w ht hn hR => ?_
 have hr := hx.rep hγ hR (ht x (by simp [Op.operands, Call.operands]))
 obtain ⟨base, hl', hcap, hnil, _, hcells⟩ := hR.arrc ((hn _ (by simp)).trans ho)
 obtain ⟨s1, s2⟩ := hr.osl_at hl' hs
 have hs' : n = es.length := hs
 have key : ∀ bs m c, a.eval x = .slice bs m c → (execOp a.eval ⟨dst, .call { callee := .builtin .len, args := #[x], argTypes := #[t] }, ty, pos, aft, g⟩).run P w = .ok (.value (goInt m)) w := fun bs m c hv => by
  simp only [execOp, resolve, Sem.run_bind, Sem.run_pure, Result.andThen_ok, invoke, builtin]
  simp [hv, Builtin.len_, run_underlying (und_slice hT hl htd)]
 cases base with
 | none =>
  simp only at hcells
  have h0 : len = 0 := by omega
  subst h0
  exact ⟨_, key _ _ _ s2, .v _ _⟩
 | some bo =>
  obtain ⟨b, off0⟩ := bo
  obtain ⟨ad, c', hv, hlc, hpos, hq0, hcc⟩ := s2
  exact ⟨_, key _ _ _ hv, .v _ _⟩
end
end Go.Sym
