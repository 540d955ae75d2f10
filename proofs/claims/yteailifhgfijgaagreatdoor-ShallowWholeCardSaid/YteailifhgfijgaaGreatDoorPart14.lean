/- A part of the proof: SymR, SymS. -/
import Derived.Test.YteailifhgfijgaaGreatDoorPart13
set_option linter.unusedVariables false
set_option linter.unusedSimpArgs false
namespace Go.Sym
open Go.RowKit
theorem plain_uses_all {ns : List Nat} : (∀ p, plain p = true → usesOnly ns p = true) ∧ (∀ ps, plainL ps = true → usesOnlyL ns ps = true) := by
 have c : ∀ p, plain p = true → usesOnly ns p = true := by
  intro p
  refine @PV.rec (fun p => plain p = true → usesOnly ns p = true) (fun ps => plainL ps = true → usesOnlyL ns ps = true) ?_ ?_ ?_ ?_ ?_ ?_ ?_ ?_ ?_ ?_ ?_ ?_ ?_ ?_ ?_ ?_ ?_ ?_ p
  ·exact fun _ _ => rfl
  ·exact fun cs ih h => by simp only [plain, usesOnly] at h ⊢; exact ih h
  ·exact fun cs ih h => by simp only [plain, usesOnly] at h ⊢; exact ih h
  ·exact fun _ _ _ _ _ => rfl
  ·exact fun _ _ _ => rfl
  ·exact fun o off h => by simp [plain] at h
  ·exact fun o i off n h => by simp [plain] at h
  ·exact fun o off len n h => by simp [plain] at h
  ·exact fun fn f cc i1 i2 h => by simp only [plain, usesOnly, Bool.and_eq_true] at h ⊢; exact ⟨i1 h.1, i2 h.2⟩
  ·exact fun t x ih h => by simp only [plain, usesOnly] at h ⊢; exact ih h
  ·exact fun b x _ h => by simp [plain] at h
  ·exact fun _ => rfl
  ·exact fun o h => by simp [plain] at h
  ·exact fun _ _ _ _ _ => rfl
  ·exact fun _ _ _ => rfl
  ·exact fun _ _ _ _ => rfl
  ·exact fun _ => rfl
  ·exact fun c cs i1 i2 h => by simp only [plainL, usesOnlyL, Bool.and_eq_true] at h ⊢; exact ⟨i1 h.1, i2 h.2⟩
 refine ⟨c, fun ps => ?_⟩
 induction ps with
 | nil => exact fun _ => rfl
 | cons d ds ih => exact fun h => by simp only [plainL, usesOnlyL, Bool.and_eq_true] at h ⊢; exact ⟨c d h.1, ih h.2⟩
def idσ : List Nat → List (Nat × Nat)
 | [] => []
 | n :: r => (n, n) :: idσ r
theorem look_idσ : ∀ {l : List Nat} {n m : Nat}, look (idσ l) n = some m → m = n ∧ n ∈ l
 | [], n, m, h => by simp [idσ, look] at h
 | k :: r, n, m, h => by
  simp only [idσ] at h
  rw [look_cons] at h
  split at h
  ·rename_i e; subst e; simp at h; exact ⟨h.symm, by simp⟩
  ·obtain ⟨h1, h2⟩ := look_idσ h; exact ⟨h1, by simp [h2]⟩
inductive TurnT (S : St) (σ : List (Nat × Nat)) (B : List Nat) : List (Nat × PV) → Prop
 | nil : TurnT S σ B []
 | cons {t : Nat} {p q : PV} {r : List (Nat × PV)} : S.get t = some q → ConvP S σ B q p → TurnT S σ B r → TurnT S σ B ((t, p) :: r)
inductive TurnO (S : St) (σ : List (Nat × Nat)) (B : List Nat) : List (Nat × SObj) → Prop
 | nil : TurnO S σ B []
 | box {n : Nat} {cs ds : List PV} {r : List (Nat × SObj)} : S.obj n = some (.box cs) → ConvL S σ B cs ds → TurnO S σ B r → TurnO S σ B ((n, .box ds) :: r)
 | arr {n sz : Nat} {nl : Bool} {es : List PV} {r : List (Nat × SObj)} : S.obj n = some (.arr sz nl es) → Side (plainL es = true) → TurnO S σ B r → TurnO S σ B ((n, .arr sz nl es) :: r)
 | gone {n : Nat} {r : List (Nat × SObj)} : S.obj n = some .gone → TurnO S σ B r → TurnO S σ B ((n, .gone) :: r)
 | map {n : Nat} {ks : List Value} {vs : List PV} {r : List (Nat × SObj)} : S.obj n = some (.map ks vs) → Side (plainL vs = true) → TurnO S σ B r → TurnO S σ B ((n, .map ks vs) :: r)
 | arrC {n sz : Nat} {nl : Bool} {es ds : List PV} {r : List (Nat × SObj)} : S.obj n = some (.arr sz nl es) → ConvL S σ B (cellsOf es) (cellsOf ds) → Side (es.length = ds.length ∧ ∀ e ∈ ds, e.cells.length = sz) → TurnO S σ B r → TurnO S σ B ((n, .arr sz nl ds) :: r)
section
variable {P : Program} {T : Tbl} {fr : Fr} {S S' : St} {L L' : LMap} {a : Act} {w : World} {F F' : Nat → Prop}
theorem TurnT.get {σ : List (Nat × Nat)} {B : List Nat} : ∀ {l : List (Nat × PV)}, TurnT S σ B l → ∀ t p, (t, p) ∈ l → ∃ q, S.get t = some q ∧ ConvP S σ B q p
 | _, .nil, t, p, h => by simp at h
 | _, .cons h1 h2 h3, t, p, h => by
  rcases List.mem_cons.1 h with h | h
  ·cases h; exact ⟨_, h1, h2⟩
  ·exact h3.get t p h
theorem TurnO.get {σ : List (Nat × Nat)} {B : List Nat} : ∀ {l : List (Nat × SObj)}, TurnO S σ B l → ∀ n ob, (n, ob) ∈ l → ∃ ob', S.obj n = some ob' ∧ ((∃ cs ds, ob' = .box cs ∧ ob = .box ds ∧ ConvL S σ B cs ds) ∨ (∃ sz nl es ds, ob' = .arr sz nl es ∧ ob = .arr sz nl ds ∧ ((es = ds ∧ plainL es = true) ∨ (ConvL S σ B (cellsOf es) (cellsOf ds) ∧ es.length = ds.length ∧ ∀ e ∈ ds, e.cells.length = sz))) ∨ (ob' = .gone ∧ ob = .gone) ∨ ∃ ks vs, ob' = .map ks vs ∧ ob = .map ks vs ∧ plainL vs = true)
 | _, .nil, t, p, h => by simp at h
 | _, .box h1 h2 h3, t, p, h => by
  rcases List.mem_cons.1 h with h | h
  ·cases h; exact ⟨_, h1, .inl ⟨_, _, rfl, rfl, h2⟩⟩
  ·exact h3.get t p h
 | _, .arr h1 h2 h3, t, p, h => by
  rcases List.mem_cons.1 h with h | h
  ·cases h; exact ⟨_, h1, .inr (.inl ⟨_, _, _, _, rfl, rfl, .inl ⟨rfl, h2⟩⟩)⟩
  ·exact h3.get t p h
 | _, .arrC h1 h2 h4 h3, t, p, h => by
  rcases List.mem_cons.1 h with h | h
  ·cases h; exact ⟨_, h1, .inr (.inl ⟨_, _, _, _, rfl, rfl, .inr ⟨h2, h4⟩⟩)⟩
  ·exact h3.get t p h
 | _, .gone h1 h3, t, p, h => by
  rcases List.mem_cons.1 h with h | h
  ·cases h; exact ⟨_, h1, .inr (.inr (.inl ⟨rfl, rfl⟩))⟩
  ·exact h3.get t p h
 | _, .map h1 h2 h3, t, p, h => by
  rcases List.mem_cons.1 h with h | h
  ·cases h; exact ⟨_, h1, .inr (.inr (.inr ⟨_, _, rfl, rfl, h2⟩))⟩
  ·exact h3.get t p h
theorem mem_look {α : Type} : ∀ {l : List (Nat × α)} {k : Nat} {x : α}, (k, x) ∈ l → ∃ y, look l k = some y
 | [], _, _, h => by simp at h
 | (k', o') :: r, k, x, h => by
  rw [look_cons]
  by_cases e : k' = k
  ·exact ⟨o', by simp [e]⟩
  ·rw [if_neg e]
   rcases List.mem_cons.1 h with h | h
   ·cases h; exact absurd rfl e
   ·exact mem_look h
theorem Weak.turn {nt : Nat} (B : List Nat) (hp : S.o.all (fun x => Nat.blt x.1 PN || (S'.o.map (·.1)).contains x.1) = true) (hB : B.all (fun o => !(S'.o.map (·.1)).contains o) = true)
  (ht : TurnT S (idσ (S'.o.map (·.1))) B S'.t) (ho : TurnO S (idσ (S'.o.map (·.1))) B S'.o) : Weak nt S S' := by
 intro fr hnt L a w hR
 have hM := hR.mem
 let ns := S'.o.map (·.1)
 let L' : LMap := fun n => if ns.contains n then L n else none
 have hL : ∀ n, ns.contains n = true → ∀ l, L n = some l → L' n = some l := fun n hn l hl => by simp only [L', hn, if_true]; exact hl
 have hL2 : ∀ n l, L' n = some l → L n = some l ∧ ns.contains n = true := fun n l h => by
  simp only [L'] at h
  split at h
  ·rename_i hc; exact ⟨h, hc⟩
  ·simp at h
 have hF : ∀ b, ¬ fr.F L b → ¬ fr.F L' b := fun b hn h => by
  rcases h with h | ⟨n, l, h1, h2⟩
  ·exact hn (.inl h)
  ·exact hn (.inr ⟨n, l, (hL2 n l h1).1, h2⟩)
 have hBF : ∀ o, B.contains o = true → ∀ l b, L o = some l → l.blk = some b → ¬ fr.F L' b := fun o hoB l b hl hb h => by
  have hno := (List.all_eq_true.1 hB) o (by simpa using hoB)
  rcases h with h | ⟨n, l', h1, h2⟩
  ·exact (hM.place o l b hl hb).1 h
  ·obtain ⟨k1, k2⟩ := hL2 n l' h1
   have := hM.inj o n l l' b hl k1 hb h2
   subst this
   simp only [Bool.not_eq_true'] at hno
   exact absurd k2 (by show ¬ (S'.o.map (·.1)).contains o = true; rw [hno]; simp)
 have hσ : ∀ o o', look (idσ ns) o = some o' → ∀ l, L o = some l → L' o' = some l := fun o o' h l hl => by
  obtain ⟨rfl, h2⟩ := look_idσ h
  exact hL _ (by simpa using h2) l hl
 have hcv := conv_rep_all (L' := L') (F' := fr.F L') hM (σ := idσ ns) (B := B) hF hBF hσ
 have hcv1 := fun {p q} h x => @hcv.1 p q h x
 have hcvL : ∀ {cs ds : List PV}, ConvL S (idσ ns) B cs ds → ∀ b off, CellsAt w (fr.F L) L cs b off → CellsAt w (fr.F L') L' ds b off := by
  intro cs ds h
  induction ds generalizing cs with
  | nil => intro b off _ j c hj; simp at hj
  | cons d ds ih =>
   cases h with
   | cons g1 g2 =>
    intro b off hc j c hj
    cases j with
    | zero =>
     simp at hj; subst hj
     obtain ⟨x, k1, k2, k3⟩ := hc 0 _ rfl
     exact ⟨x, k1, k2, hcv1 g1 x k3⟩
    | succ j =>
     obtain ⟨x, k1, k2, k3⟩ := ih g2 b (off + 1) (fun j' c' hj' => by
      obtain ⟨y, m1, m2, m3⟩ := hc (j' + 1) c' (by simpa using hj')
      exact ⟨y, by rw [show off + 1 + j' = off + (j' + 1) by omega]; exact m1, by rw [show off + 1 + j' = off + (j' + 1) by omega]; exact m2, m3⟩) j c (by simpa using hj)
     exact ⟨x, by rw [show off + (j + 1) = off + 1 + j by omega]; exact k1, by rw [show off + (j + 1) = off + 1 + j by omega]; exact k2, k3⟩
 refine ⟨L', ⟨fun n ob hn => ?_, fun n l hn => ?_, fun n n' l l' b hn hn' hb hb' => hM.inj n n' l l' b (hL2 n l hn).1 (hL2 n' l' hn').1 hb hb', fun n l b hn hb => hM.place n l b (hL2 n l hn).1 hb, fun n l b hn hb => hM.kind n l b (hL2 n l hn).1 hb, hM.parLt, hM.xLt, hM.frame, fun n l h => ?_⟩, hR.nt, hR.defers, fun t p hp => ?_⟩
 ·have hmem := look_mem hn
  have hns : ns.contains n = true := by
   simp only [ns, List.contains_iff_mem, List.mem_map]
   exact ⟨_, hmem, rfl⟩
  obtain ⟨ob', hn2, hcase⟩ := ho.get n ob hmem
  obtain ⟨l, h1, h2⟩ := hM.objs n ob' hn2
  refine ⟨l, hL n hns l h1, ?_⟩
  rcases hcase with ⟨cs, ds, rfl, rfl, hc⟩ | ⟨sz, nl, es, _, rfl, rfl, ⟨rfl, hpl⟩ | ⟨hcv, hlen, hds⟩⟩ | ⟨rfl, rfl⟩ | ⟨ks, vs, rfl, rfl, hpl⟩
  ·cases l with
   | box b o' n' => exact ⟨h2.1.trans hc.get.1, hcvL hc _ _ h2.2⟩
   | arr => exact h2.elim
   | gone => exact h2.elim
   | map => exact h2.elim
   | iter => exact h2.elim
  ·cases l with
   | arr base n' cap sz' =>
    cases base with
    | none => exact h2
    | some bo =>
     obtain ⟨k1, k2, k3, k4, k5, k6, k7⟩ := h2
     refine ⟨k1, k2, k3, k4, k5, fun j c hj => ?_, k7⟩
     obtain ⟨x, m1, m2, m3⟩ := k6 j c hj
     obtain ⟨e, he, hce⟩ := List.mem_flatMap.1 (List.mem_of_getElem? hj)
     exact ⟨x, m1, m2, (m3.plain (plain_cells (plainL_mem hpl e he) c hce) L').mono (fun b s hx hn => ⟨hx, hF b hn⟩) (LExt.refl _)⟩
   | box => exact h2.elim
   | gone => exact h2.elim
   | map => exact h2.elim
   | iter => exact h2.elim
  ·cases l with
   | arr base n' cap sz' =>
    cases base with
    | none => exact ⟨h2.1, h2.2.1.trans hlen, h2.2.2.1, h2.2.2.2.1, hds, h2.2.2.2.2.2⟩
    | some bo =>
     obtain ⟨k1, k2, k3, k4, k5, k6, k7⟩ := h2
     exact ⟨k1, k2.trans hlen, k3, k4, hds, hcvL hcv _ _ k6, k7⟩
   | box => exact h2.elim
   | gone => exact h2.elim
   | map => exact h2.elim
   | iter => exact h2.elim
  ·cases l <;> exact h2
  ·cases l with
   | map b =>
    obtain ⟨es, clock, k1, k2, k3, k4, k5⟩ := h2
    exact ⟨es, clock, k1, k2, (rep_plain_all.2 k3 hpl L').mono (fun b s hx hn => ⟨hx, hF b hn⟩) (LExt.refl _), k4, k5⟩
   | _ => exact h2.elim
 ·obtain ⟨h1, h2⟩ := hL2 n l hn
  simp only [ns, List.contains_iff_mem, List.mem_map] at h2
  obtain ⟨⟨k, ob⟩, hmem, rfl⟩ := h2
  exact mem_look hmem
 ·obtain ⟨l', h1, h2⟩ := hM.lext n l h
  obtain ⟨ob, hob⟩ := hM.dom n l' h1
  have hmem := look_mem hob
  have hpn := hnt.2 n l h
  have := (List.all_eq_true.1 hp) _ hmem
  simp only [Bool.or_eq_true] at this
  rcases this with h3 | h3
  ·rw [Nat.blt_eq] at h3; omega
  ·exact ⟨l', hL n h3 l' h1, h2⟩
 ·have hmem := look_mem hp
  obtain ⟨q, g1, g2⟩ := ht.get t p hmem
  obtain ⟨x, h1, h2⟩ := hR.vals t q g1
  exact ⟨x, h1, hcv1 g2 x h2⟩
inductive AdP (o : Nat) : PV → PV → Prop
 | same {p : PV} : AdP o p p
 | nilS : AdP o nilS (.osl o 0 0 0)
 | sl {sz : Nat} : AdP o (.sl true sz []) (.osl o 0 0 0)
inductive AdL (o : Nat) : List PV → List PV → Prop
 | nil : AdL o [] []
 | cons {p q : PV} {ps qs : List PV} : AdP o p q → AdL o ps qs → AdL o (p :: ps) (q :: qs)
inductive AdT (S : St) (o : Nat) : List (Nat × PV) → Prop
 | nil : AdT S o []
 | cons {t : Nat} {p q : PV} {r : List (Nat × PV)} : S.get t = some q → AdP o q p → AdT S o r → AdT S o ((t, p) :: r)
inductive AdO (S : St) (o : Nat) : List (Nat × SObj) → Prop
 | nil : AdO S o []
 | box {n : Nat} {cs ds : List PV} {r : List (Nat × SObj)} : S.obj n = some (.box cs) → AdL o cs ds → AdO S o r → AdO S o ((n, .box ds) :: r)
 | arr {n sz : Nat} {nl : Bool} {es : List PV} {r : List (Nat × SObj)} : S.obj n = some (.arr sz nl es) → AdO S o r → AdO S o ((n, .arr sz nl es) :: r)
 | gone {n : Nat} {r : List (Nat × SObj)} : S.obj n = some .gone → AdO S o r → AdO S o ((n, .gone) :: r)
 | map {n : Nat} {ks : List Value} {vs : List PV} {r : List (Nat × SObj)} : S.obj n = some (.map ks vs) → AdO S o r → AdO S o ((n, .map ks vs) :: r)
 | iter {n : Nat} {nl : Bool} {ks : List Value} {vs : List PV} {seen : List Nat} {r : List (Nat × SObj)} : S.obj n = some (.iter nl ks vs seen) → AdO S o r → AdO S o ((n, .iter nl ks vs seen) :: r)
 | arrC {n sz : Nat} {nl : Bool} {es ds : List PV} {r : List (Nat × SObj)} : S.obj n = some (.arr sz nl es) → AdL o (cellsOf es) (cellsOf ds) → Side (es.length = ds.length ∧ ∀ e ∈ ds, e.cells.length = sz) → AdO S o r → AdO S o ((n, .arr sz nl ds) :: r)
theorem AdP.rep {o : Nat} {p q : PV} (h : AdP o p q) {x : Value} (hx : Rep w F L p x) (hE : Ext w F w F') (hl : LExt L L') {sz : Nat} (ho : L' o = some (.arr none 0 0 sz)) : Rep w F' L' q x := by
 cases h with
 | same => exact hx.mono hE hl
 | nilS =>
  have := hx.inv_v
  subst this
  exact .osl ho ⟨Nat.le_refl _, fun _ => ⟨by omega, rfl⟩⟩ ⟨_, _, _, rfl⟩
 | sl => cases hx with | slNil => exact .osl ho ⟨Nat.le_refl _, fun _ => ⟨by omega, rfl⟩⟩ ⟨_, _, _, rfl⟩
theorem AdL.length {o : Nat} : ∀ {ps qs : List PV}, AdL o ps qs → ps.length = qs.length
 | _, _, .nil => rfl
 | _, _, .cons _ h => by simp [h.length]
theorem AdL.get {o : Nat} : ∀ {ps qs : List PV}, AdL o ps qs → ∀ (j : Nat) q, qs[j]? = some q → ∃ p, ps[j]? = some p ∧ AdP o p q
 | _, _, .nil, j, q, h => by simp at h
 | _, _, .cons h1 h2, 0, q, h => by simp at h; subst h; exact ⟨_, rfl, h1⟩
 | _, _, .cons h1 h2, j + 1, q, h => by simpa using h2.get j q (by simpa using h)
theorem AdT.get {o : Nat} : ∀ {l : List (Nat × PV)}, AdT S o l → ∀ t p, (t, p) ∈ l → ∃ q, S.get t = some q ∧ AdP o q p
 | _, .nil, t, p, h => by simp at h
 | _, .cons h1 h2 h3, t, p, h => by
  rcases List.mem_cons.1 h with h | h
  ·cases h; exact ⟨_, h1, h2⟩
  ·exact h3.get t p h
theorem AdO.get {o : Nat} : ∀ {l : List (Nat × SObj)}, AdO S o l → ∀ n ob, (n, ob) ∈ l → ∃ ob', S.obj n = some ob' ∧ (ob' = ob ∨ (∃ cs ds, ob' = .box cs ∧ ob = .box ds ∧ AdL o cs ds) ∨ ∃ sz nl es ds, ob' = .arr sz nl es ∧ ob = .arr sz nl ds ∧ AdL o (cellsOf es) (cellsOf ds) ∧ es.length = ds.length ∧ ∀ e ∈ ds, e.cells.length = sz)
 | _, .nil, t, p, h => by simp at h
 | _, .box h1 h2 h3, t, p, h => by
  rcases List.mem_cons.1 h with h | h
  ·cases h; exact ⟨_, h1, .inr (.inl ⟨_, _, rfl, rfl, h2⟩)⟩
  ·exact h3.get t p h
 | _, .arrC h1 h2 h4 h3, t, p, h => by
  rcases List.mem_cons.1 h with h | h
  ·cases h; exact ⟨_, h1, .inr (.inr ⟨_, _, _, _, rfl, rfl, h2, h4⟩)⟩
  ·exact h3.get t p h
 | _, .arr h1 h3, t, p, h => by
  rcases List.mem_cons.1 h with h | h
  ·cases h; exact ⟨_, h1, .inl rfl⟩
  ·exact h3.get t p h
 | _, .gone h1 h3, t, p, h => by
  rcases List.mem_cons.1 h with h | h
  ·cases h; exact ⟨_, h1, .inl rfl⟩
  ·exact h3.get t p h
 | _, .map h1 h3, t, p, h => by
  rcases List.mem_cons.1 h with h | h
  ·cases h; exact ⟨_, h1, .inl rfl⟩
  ·exact h3.get t p h
 | _, .iter h1 h3, t, p, h => by
  rcases List.mem_cons.1 h with h | h
  ·cases h; exact ⟨_, h1, .inl rfl⟩
  ·exact h3.get t p h
theorem Weak.adopt {nt : Nat} (o sz : Nat) {t' : List (Nat × PV)} {o' : List (Nat × SObj)} (hno : S.obj o = none) (hp : S.o.all (fun x => (o'.map (·.1)).contains x.1) = true) (ht : AdT S o t') (ho : AdO S o o') : Weak nt S ⟨t', (o, .arr sz true []) :: o'⟩ := by
 intro fr hnt L a w hR
 have hM := hR.mem
 have hLo : L o = none := by
  cases h : L o with
  | none => rfl
  | some l => obtain ⟨ob, hob⟩ := hM.dom o l h; rw [hno] at hob; simp at hob
 let L' : LMap := L.set o (.arr none 0 0 sz)
 have hL'o : L' o = some (.arr none 0 0 sz) := by simp [L', LMap.set]
 have hL' : ∀ n, n ≠ o → L' n = L n := fun n hn => by simp [L', LMap.set, hn]
 have hext : LExt L L' := fun n l h => ⟨l, by rw [hL' n (by rintro rfl; rw [hLo] at h; simp at h)]; exact h, l.le_refl⟩
 have hb : ∀ n l b, L' n = some l → l.blk = some b → L n = some l := fun n l b h hb => by
  by_cases e : n = o
  ·subst e; rw [hL'o] at h; cases h; simp [Loc.blk] at hb
  ·rw [hL' n e] at h; exact h
 have hE : Ext w (fr.F L) w (fr.F L') := fun b s hx hn => ⟨hx, fun h => hn (by
  rcases h with h | ⟨n, l, h1, h2⟩
  ·exact .inl h
  ·exact .inr ⟨n, l, hb n l b h1 h2, h2⟩)⟩
 refine ⟨L', ⟨fun n ob hn => ?_, fun n l hn => ?_, fun n n' l l' b hn hn' hb1 hb2 => hM.inj n n' l l' b (hb _ _ _ hn hb1) (hb _ _ _ hn' hb2) hb1 hb2, fun n l b hn hb1 => hM.place n l b (hb _ _ _ hn hb1) hb1, fun n l b hn hb1 => hM.kind n l b (hb _ _ _ hn (blk_of_range hb1)) hb1, hM.parLt, hM.xLt, hM.frame, hM.lext.trans hext⟩, hR.nt, hR.defers, fun t p hp => ?_⟩
 ·have hn' : look ((o, SObj.arr sz true []) :: o') n = some ob := hn
  rw [look_cons] at hn'
  split at hn'
  ·rename_i e; subst e
   simp at hn'; subst hn'
   exact ⟨_, hL'o, rfl, rfl, Nat.le_refl _, rfl, by simp, rfl⟩
  ·rename_i e
   have hmem := look_mem hn'
   obtain ⟨ob', hn2, hcase⟩ := ho.get n ob hmem
   obtain ⟨l, h1, h2⟩ := hM.objs n ob' hn2
   refine ⟨l, by rw [hL' n (fun h => e h.symm)]; exact h1, ?_⟩
   rcases hcase with rfl | ⟨cs, ds, rfl, rfl, hc⟩ | ⟨sz', nl', es, ds, rfl, rfl, hc, hlen, hds⟩
   ·cases ob' with
    | box cs =>
     cases l with
     | box b off k => exact ⟨h2.1, fun j c hj => by obtain ⟨x, g1, g2, g3⟩ := h2.2 j c hj; exact ⟨x, g1, g2, g3.mono hE hext⟩⟩
     | arr => exact h2.elim
     | gone => exact h2.elim
     | map => exact h2.elim
     | iter => exact h2.elim
    | arr sz nl es =>
     cases l with
     | arr base n' cap sz' =>
      cases base with
      | none => exact h2
      | some bo =>
       obtain ⟨k1, k2, k3, k4, k5, k6, k7⟩ := h2
       exact ⟨k1, k2, k3, k4, k5, fun j c hj => by obtain ⟨x, g1, g2, g3⟩ := k6 j c hj; exact ⟨x, g1, g2, g3.mono hE hext⟩, k7⟩
     | box => exact h2.elim
     | gone => exact h2.elim
     | map => exact h2.elim
     | iter => exact h2.elim
    | gone => cases l <;> exact h2
    | map ks vs =>
     cases l with
     | map b =>
      obtain ⟨es, clock, k1, k2, k3, k4, k5⟩ := h2
      exact ⟨es, clock, k1, k2, k3.mono hE hext, k4, k5⟩
     | _ => exact h2.elim
    | iter nl ks vs seen =>
     cases l with
     | iter b => exact ItAt.mono h2 hE rfl
     | _ => exact h2.elim
    | arrc sz nl es cc =>
     cases l with
     | arr base n' cap sz' =>
      cases base with
      | none => exact h2
      | some bo =>
       obtain ⟨k0, k1, k2, k3, k4, k5, k6, k7⟩ := h2
       exact ⟨k0, k1, k2, k3, k4, k5, fun j c hj => by obtain ⟨x, g1, g2, g3⟩ := k6 j c hj; exact ⟨x, g1, g2, g3.mono hE hext⟩, k7⟩
     | box => exact h2.elim
     | gone => exact h2.elim
     | map => exact h2.elim
     | iter => exact h2.elim
   ·cases l with
    | box b off k =>
     refine ⟨h2.1.trans hc.length, fun j c hj => ?_⟩
     obtain ⟨p, k1, k2⟩ := hc.get j c hj
     obtain ⟨x, g1, g2, g3⟩ := h2.2 j p k1
     exact ⟨x, g1, g2, k2.rep g3 hE hext hL'o⟩
    | arr => exact h2.elim
    | gone => exact h2.elim
    | map => exact h2.elim
    | iter => exact h2.elim
   ·cases l with
    | arr base n' cap sz' =>
     cases base with
     | none => exact ⟨h2.1, h2.2.1.trans hlen, h2.2.2.1, h2.2.2.2.1, hds, h2.2.2.2.2.2⟩
     | some bo =>
      obtain ⟨k1, k2, k3, k4, k5, k6, k7⟩ := h2
      refine ⟨k1, k2.trans hlen, k3, k4, hds, fun j c hj => ?_, k7⟩
      obtain ⟨p, m1, m2⟩ := hc.get j c hj
      obtain ⟨x, g1, g2, g3⟩ := k6 j p m1
      exact ⟨x, g1, g2, m2.rep g3 hE hext hL'o⟩
    | box => exact h2.elim
    | gone => exact h2.elim
    | map => exact h2.elim
    | iter => exact h2.elim
 ·by_cases e : n = o
  ·subst e; exact ⟨_, by show look ((n, SObj.arr sz true []) :: o') n = _; rw [look_cons, if_pos rfl]⟩
  ·rw [hL' n e] at hn
   obtain ⟨ob, hob⟩ := hM.dom n l hn
   have := (List.all_eq_true.1 hp) _ (look_mem hob)
   simp only [List.contains_iff_mem, List.mem_map] at this
   obtain ⟨⟨k, ob2⟩, hm, rfl⟩ := this
   obtain ⟨y, hy⟩ := mem_look hm
   exact ⟨y, by show look ((o, SObj.arr sz true []) :: o') _ = _; rw [look_cons, if_neg (fun h => e h.symm)]; exact hy⟩
 ·have hmem := look_mem hp
  obtain ⟨q, g1, g2⟩ := ht.get t p hmem
  obtain ⟨x, h1, h2⟩ := hR.vals t q g1
  exact ⟨x, h1, g2.rep h2 hE hext hL'o⟩
theorem Weak.trans {nt : Nat} {S1 S2 S3 : St} (h : Weak nt S1 S2) (k : Weak nt S2 S3) : Weak nt S1 S3 := fun fr hnt L a w hR => by
 obtain ⟨L1, h1⟩ := h fr hnt L a w hR
 exact k fr hnt L1 a w h1
end
end Go.Sym
namespace Go.Sym
open Go.RowKit
section
variable {P : Program} {T : Tbl} {fr : Fr} {S S' : St} {L : LMap} {a : Act} {w : World} {γ : Bool}
variable {ty : Nat} {pos : String} {aft : Array Edge} {g : Option (Nat × Bool)} {dst : Option Nat}
theorem F_max [Globs P] (hγ : γ = true) {x y : Operand} {ts : Array TypeId} {k : IntKind} {i j : Int} (hx : OpdO γ S x (.v (.int k i))) (hy : OpdO γ S y (.v (.int k j))) :
  FStep P ⟨dst, .call { callee := .builtin .max, args := #[x, y], argTypes := ts }, ty, pos, aft, g⟩ S [] ⟨.v (.int k (max i j)), []⟩ := by
 refine FStep.val fun fr S' L a w ht hn hR => ?_
 have h1 := (hx.rep hγ hR (ht x (by simp [Op.operands, Call.operands]))).inv_v
 have h2 := (hy.rep hγ hR (ht y (by simp [Op.operands, Call.operands]))).inv_v
 have e : (if j > i then j else i) = max i j := by split <;> omega
 refine ⟨_, ?_, .v _ _⟩
 simp only [execOp, resolve, Sem.run_bind, Sem.run_pure, Result.andThen_ok, invoke, builtin]
 simp [h1, h2, Builtin.max_, Builtin.max2, ← e]
def putAt (es : List PV) (k : Nat) (xs : List PV) : List PV := es.take k ++ (xs ++ es.drop (k + xs.length))
theorem putAt_length {es xs : List PV} {k : Nat} (h : k + xs.length ≤ es.length) : (putAt es k xs).length = es.length := by
 simp only [putAt, List.length_append, List.length_take, List.length_drop]; omega
theorem putAt_mem {es xs : List PV} {k : Nat} {e : PV} (h : e ∈ putAt es k xs) : e ∈ es ∨ e ∈ xs := by
 simp only [putAt, List.mem_append] at h
 rcases h with h | h | h
 ·exact .inl (List.mem_of_mem_take h)
 ·exact .inr h
 ·exact .inl (List.mem_of_mem_drop h)
theorem putAt_nil (es : List PV) (k : Nat) : putAt es k [] = es := by simp [putAt]
theorem R.putRows (hR : R fr S L a w) {o sz cap b off : Nat} {es xs : List PV} {news : List Value} {k : Nat} (hl : L o = some (.arr (some (b, off)) es.length cap sz)) (hcap : es.length ≤ cap) (hes : ∀ e ∈ es, e.cells.length = sz)
  (hcells : CellsAt w (fr.F L) L (cellsOf es) b off ∧ ∀ j, j < cap * sz → ∃ x, w.cell? ⟨b, off + j, none⟩ = some x ∧ w.frozen? ⟨b, off + j, none⟩ = false) (hk : k + xs.length ≤ es.length) (hxs : ∀ e ∈ xs, e.cells.length = sz) (hnews : RepL w (fr.F L) L (cellsOf xs) news) :
  R fr (S.upd [(o, .arr sz false (putAt es k xs))]) (L.set o (.arr (some (b, off)) es.length cap sz)) a (w.setCells b (off + k * sz) news) := by
 have hnl : news.length = xs.length * sz := by rw [← cellsOf_length hxs, repL_length hnews]
 have hfit : k * sz + news.length ≤ es.length * sz := by rw [hnl, ← Nat.add_mul]; exact Nat.mul_le_mul_right _ hk
 have hfit2 : es.length * sz ≤ cap * sz := Nat.mul_le_mul_right _ hcap
 have hc : ∀ j, j < news.length → ∃ x, w.cell? ⟨b, off + k * sz + j, none⟩ = some x ∧ w.frozen? ⟨b, off + k * sz + j, none⟩ = false := fun j hj => by
  have := hcells.2 (k * sz + j) (by omega)
  simpa [Nat.add_assoc] using this
 refine (R.write hR (o := o) (b := b) (lo := off) (n := cap * sz) (q := off + k * sz) (l := .arr (some (b, off)) es.length cap sz) (l' := .arr (some (b, off)) es.length cap sz)
  (ob' := .arr sz false (putAt es k xs)) (vs := news) hl rfl rfl ⟨by omega, by omega⟩ (Loc.le_refl _) rfl rfl id (by intro b h; cases h) (fun hext hlx => ?_)).1
 have hcsA := fun j => cells_setCells (w := w) (b := b) (q := off + k * sz) (vs := news) (fun j hj => by obtain ⟨x, hx, _⟩ := hc j hj; simp [hx]) (off + j)
 refine ⟨rfl, (putAt_length hk).symm, hcap, rfl, fun x hx => (putAt_mem hx).elim (hes x) (hxs x), fun j c' hj => ?_, fun j hj => ?_⟩
 ·rw [hcsA j, World.frozen?_setCells]
  have hlt : (cellsOf (es.take k)).length = k * sz := by rw [cellsOf_length (fun e he => hes e (List.mem_of_mem_take he))]; rw [List.length_take, Nat.min_eq_left (by omega)]
  have hlx2 : (cellsOf xs).length = news.length := by rw [cellsOf_length hxs, hnl]
  simp only [putAt, cellsOf_append] at hj
  rw [List.getElem?_append, hlt] at hj
  split at hj
  ·rename_i h1
   rw [if_neg (by omega)]
   rw [cellsOf_take hes, List.getElem?_take, if_pos h1] at hj
   obtain ⟨x, k1, k2, k3⟩ := hcells.1 j c' hj
   exact ⟨x, k1, k2, k3.mono hext hlx⟩
  ·rename_i h1
   rw [List.getElem?_append, hlx2] at hj
   split at hj
   ·rename_i h2
    obtain ⟨x, k1, k2⟩ := repL_get hnews _ _ hj
    obtain ⟨_, _, k4⟩ := hcells.2 j (by omega)
    exact ⟨x, by rw [if_pos ⟨by omega, by omega⟩, show off + j - (off + k * sz) = j - k * sz by omega]; exact k1, k4, k2.mono hext hlx⟩
   ·rename_i h2
    rw [if_neg (by omega)]
    rw [cellsOf_drop hes, List.getElem?_drop, Nat.add_mul, ← hnl, show k * sz + news.length + (j - k * sz - news.length) = j by omega] at hj
    obtain ⟨x, k1, k2, k3⟩ := hcells.1 j c' hj
    exact ⟨x, k1, k2, k3.mono hext hlx⟩
 ·rw [hcsA j, World.frozen?_setCells]
  obtain ⟨x, k1, k2⟩ := hcells.2 j hj
  split
  ·exact ⟨news[off + j - (off + k * sz)]'(by omega), List.getElem?_eq_getElem _, k2⟩
  ·exact ⟨x, k1, k2⟩
theorem run_clear {t e n sz : Nat} {base : Option Addr} {cap : Nat} {ei : TypeInfo} {z : Value} (ht : P.underlying t = some (.slice e)) (hi : P.info? e = some ei) (hz : ei.zero = some z) {w' : World}
  (hst : match base with | none => w' = w | some a => (storeCells a (Builtin.zeroCells z.cells n).toList).run P w = .ok () w') (hsz : z.cells.size = sz) :
  (Builtin.clear_ #[t] ty #[.slice base n cap]).run P w = .ok (.tuple #[]) w' := by
 subst hsz
 cases base with
 | none => subst hst; simp [Builtin.clear_, run_underlying ht]
 | some ad =>
  cases n with
  | zero =>
   have : w' = w := by simpa [Builtin.zeroCells, storeCells] using hst.symm
   subst this
   simp [Builtin.clear_, run_underlying ht]
  | succ n => simp only at hst; simp [Builtin.clear_, run_underlying ht, zeroValue, typeInfo, hi, hz, hst]
def deadE (sz : Nat) : PV := .agg (List.replicate sz .dead)
theorem repL_dead {F : Nat → Prop} : ∀ (vs : List Value) (ps : List PV), ps.length = vs.length → (∀ p ∈ ps, p = .dead) → RepL w F L ps vs
 | [], [], _, _ => .nil _
 | [], _ :: _, h, _ => by simp at h
 | _ :: _, [], h, _ => by simp at h
 | v :: vs, p :: ps, h, hp => by
  have := hp p (by simp)
  subst this
  exact .cons (.dead _ _) (repL_dead vs ps (by simpa using h) (fun q hq => hp q (by simp [hq])))
theorem zeroCells_mem {z : Array Value} {n : Nat} {v : Value} (h : v ∈ (Builtin.zeroCells z n).toList) : v ∈ z.toList := by
 simp only [Builtin.zeroCells, Array.toList_map, List.mem_map, Array.mem_toList_iff, Array.mem_range] at h
 obtain ⟨i, hi, rfl⟩ := h
 have hz : 0 < z.size := by
  rcases Nat.eq_zero_or_pos z.size with h0 | h0
  ·rw [h0, Nat.mul_zero] at hi; omega
  ·exact h0
 have := Nat.mod_lt i hz
 rw [getElem!_pos z (i % z.size) this]
 simp
theorem F_clear [Globs P] (hT : TOk P T) (hγ : γ = true) {t e : Nat} {x : Operand} {o off len n sz : Nat} {isnil : Bool} {es : List PV} {ti ei : TI} {zs : List Value} (hx : OpdO γ S x (.osl o off len n))
  (hl : look T t = some ti) (hd : ti.d = .slice e) (hle : look T e = some ei) (hsz : ei.size = sz) (hz : ei.zero = some zs) (hzs : Nat.beq zs.length sz = true) (hz1 : (zs.all fun v => v.oneCell') = true) (ho : S.obj o = some (.arr sz isnil es)) (hs : Side (n = es.length)) :
  FStep P ⟨dst, .call { callee := .builtin .clear, args := #[x], argTypes := #[t] }, ty, pos, aft, g⟩ S [o] ⟨.tup [], [(o, .arr sz isnil (putAt es off (List.replicate len (deadE sz))))]⟩ := by
 intro fr S' ht hn L a w hR hG Q
 have hp := hx.rep hγ hR (fun t e => ht t (mem_tmps (x := x) (by simp [Op.operands, Call.operands]) t e))
 have ho' := (hn o (by simp)).trans ho
 obtain ⟨base, cap, hl', hcap, hnil, hes, hcells⟩ := hR.arr ho'
 obtain ⟨s1, s2⟩ := hp.osl_at hl' hs
 have hs' : n = es.length := hs
 have hzs' := Nat.eq_of_beq_eq_true hzs
 obtain ⟨z, hzr, hzc, info, hi, hiz, his, hib⟩ := zero_of hT hle hz w
 have hu := und_slice hT hl hd
 have hzsz : z.cells.size = sz := by rw [← Array.length_toList, hzc, hzs']
 have key : ∀ v w', a.eval x = v → (Builtin.clear_ #[t] ty #[v]).run P w = .ok (.tuple #[]) w' →
   (execOp a.eval ⟨dst, .call { callee := .builtin .clear, args := #[x], argTypes := #[t] }, ty, pos, aft, g⟩).run P w = .ok (.value (.tuple #[])) w' := by
  intro v w' hv hr
  simp only [execOp, resolve, Sem.run_bind, Sem.run_pure, Result.andThen_ok, invoke, builtin]
  simp [hv, hr]
 have hxs : ∀ e ∈ List.replicate len (deadE sz), e.cells.length = sz := fun e he => by
  rw [List.eq_of_mem_replicate he]; simp [deadE, PV.cells]
 generalize hnews : (Builtin.zeroCells z.cells len).toList = news
 have hnl : news.length = len * sz := by rw [← hnews]; simp [Builtin.zeroCells, hzsz]
 have hone : ∀ v ∈ news, v.oneCell' = true := fun v hv => by
  rw [← hnews] at hv
  have := zeroCells_mem hv
  rw [hzc] at this
  exact List.all_eq_true.1 hz1 v this
 have hnr : RepL w (fr.F L) L (cellsOf (List.replicate len (deadE sz))) news := repL_dead _ _ (by rw [cellsOf_length hxs, hnl]; simp) (fun p hp => by
  simp only [cellsOf, List.mem_flatMap] at hp
  obtain ⟨e, he, hpe⟩ := hp
  rw [List.eq_of_mem_replicate he] at hpe
  exact List.eq_of_mem_replicate hpe)
 unfold Oper.wp
 cases base with
 | none =>
  simp only at hcells
  have hl0 : len = 0 := by omega
  subst hl0
  rw [key _ _ s2 (run_clear hu hi hiz rfl hzsz), Oper.upon_value]
  refine ⟨_, L, rfl, hR.eqv ⟨fun _ => rfl, fun i => ?_⟩, .tup (.nil _)⟩
  simp only [St.obj_upd, look_one, List.replicate_zero, putAt_nil]
  split
  ·rename_i e; subst e; rw [ho']; simp
  ·simp
 | some bo =>
  obtain ⟨b, off0⟩ := bo
  obtain ⟨ad, c, hv, hlc, hpos, hq0, hcc⟩ := s2
  have hib : isnil = false := by simpa using hnil
  subst hib
  by_cases hl0 : len = 0
  ·subst hl0
   have hn0 : news = [] := List.eq_nil_of_length_eq_zero (by simpa using hnl)
   rw [key _ _ hv (run_clear hu hi hiz (w' := w) (by simp only [hnews, hn0]; rfl) hzsz), Oper.upon_value]
   refine ⟨_, L, rfl, hR.eqv ⟨fun _ => rfl, fun i => ?_⟩, .tup (.nil _)⟩
   simp only [St.obj_upd, look_one, List.replicate_zero, putAt_nil]
   split
   ·rename_i e; subst e; rw [ho']; simp
   ·simp
  ·obtain rfl := hpos (by omega)
   have hfit : off * sz + news.length ≤ cap * sz := by rw [hnl, ← Nat.add_mul]; exact Nat.mul_le_mul_right _ (by omega)
   have hc : ∀ j, j < news.length → ∃ x, w.cell? ⟨b, off0 + off * sz + j, none⟩ = some x ∧ w.frozen? ⟨b, off0 + off * sz + j, none⟩ = false := fun j hj => by
    have := hcells.2 (off * sz + j) (by omega)
    simpa [Nat.add_assoc] using this
   have hst := run_storeCells_cells (P := P) b (off0 + off * sz) news 0 w (fun j hj => by obtain ⟨x, hx, _⟩ := hc j hj; simp [hx]) (fun j hj => by obtain ⟨x, _, hx⟩ := hc j hj; simpa using hx) hone
   rw [Nat.add_zero] at hst
   rw [key _ _ hv (run_clear hu hi hiz (by simp only [hnews]; exact hst) hzsz), Oper.upon_value]
   have hW := R.putRows hR (xs := List.replicate len (deadE sz)) (news := news) (k := off) hl' hcap hes hcells (by rw [List.length_replicate]; omega) hxs hnr
   exact ⟨_, _, rfl, hW, .tup (.nil _)⟩
end
end Go.Sym
