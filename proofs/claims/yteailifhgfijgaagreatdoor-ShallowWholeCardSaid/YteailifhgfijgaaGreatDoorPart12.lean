/- A part of the proof: SymP. -/
import Derived.Test.YteailifhgfijgaaGreatDoorPart11
set_option linter.unusedVariables false
set_option linter.unusedSimpArgs false
namespace Go.Sym
open Go.RowKit
mutual
def usesOnly (ns : List Nat) : PV → Bool
 | .ref o _ => ns.contains o
 | .eref o _ _ _ => ns.contains o
 | .osl o _ _ _ => ns.contains o
 | .agg cs => usesOnlyL ns cs
 | .tup cs => usesOnlyL ns cs
 | .clo _ f c => usesOnlyL ns f && usesOnlyL ns c
 | .ifc _ x => usesOnly ns x
 | .opt _ x => usesOnly ns x
 | .v _ => true
 | .sl _ _ _ => true
 | .rp _ => true
 | .dead => true
 | .mref o => ns.contains o
 | .mp _ _ _ => true
 | .it _ _ => true
 | .slf _ _ => true
def usesOnlyL (ns : List Nat) : List PV → Bool
 | [] => true
 | c :: cs => usesOnly ns c && usesOnlyL ns cs
end
inductive Kept (S : St) : List (Nat × PV) → Prop
 | nil : Kept S []
 | cons {t : Nat} {p q : PV} {r : List (Nat × PV)} : S.get t = some q → Side (q = p) → Kept S r → Kept S ((t, p) :: r)
inductive KeptO (S : St) : List (Nat × SObj) → Prop
 | nil : KeptO S []
 | cons {n : Nat} {p q : SObj} {r : List (Nat × SObj)} : S.obj n = some q → Side (q = p) → KeptO S r → KeptO S ((n, p) :: r)
def SObj.uses (ns : List Nat) : SObj → Prop
 | .box cs => usesOnlyL ns cs = true
 | .arr _ _ es => plainL es = true ∨ usesOnlyL ns (cellsOf es) = true
 | .gone => True
 | .arrc _ _ es _ => plainL es = true
 | .map _ vs => plainL vs = true
 | .iter _ _ _ _ => True
inductive UsesO (ns : List Nat) : List (Nat × SObj) → Prop
 | nil : UsesO ns []
 | box {n : Nat} {cs : List PV} {r : List (Nat × SObj)} : usesOnlyL ns cs = true → UsesO ns r → UsesO ns ((n, .box cs) :: r)
 | arr {n sz : Nat} {nl : Bool} {es : List PV} {r : List (Nat × SObj)} : Side (plainL es = true) → UsesO ns r → UsesO ns ((n, .arr sz nl es) :: r)
 | gone {n : Nat} {r : List (Nat × SObj)} : UsesO ns r → UsesO ns ((n, .gone) :: r)
 | arrc {n sz c : Nat} {nl : Bool} {es : List PV} {r : List (Nat × SObj)} : Side (plainL es = true) → UsesO ns r → UsesO ns ((n, .arrc sz nl es c) :: r)
 | map {n : Nat} {ks : List Value} {vs : List PV} {r : List (Nat × SObj)} : Side (plainL vs = true) → UsesO ns r → UsesO ns ((n, .map ks vs) :: r)
 | iter {n : Nat} {nl : Bool} {ks : List Value} {vs : List PV} {seen : List Nat} {r : List (Nat × SObj)} : UsesO ns r → UsesO ns ((n, .iter nl ks vs seen) :: r)
 | arrU {n sz : Nat} {nl : Bool} {es : List PV} {r : List (Nat × SObj)} : Side (usesOnlyL ns (cellsOf es) = true) → UsesO ns r → UsesO ns ((n, .arr sz nl es) :: r)
def usesT (ns : List Nat) : List (Nat × PV) → Bool
 | [] => true
 | (_, p) :: r => usesOnly ns p && usesT ns r
theorem look_mem {α : Type} : ∀ {l : List (Nat × α)} {n : Nat} {x : α}, look l n = some x → (n, x) ∈ l
 | [], _, _, h => by simp [look] at h
 | (k, y) :: r, n, x, h => by
  rw [look_cons] at h
  split at h
  ·rename_i e; subst e; simp at h; subst h; simp
  ·exact List.mem_cons_of_mem _ (look_mem h)
section
variable {P : Program} {T : Tbl} {fr : Fr} {S S' : St} {L L' : LMap} {a : Act} {w : World} {F F' : Nat → Prop}
theorem Kept.get : ∀ {l : List (Nat × PV)}, Kept S l → ∀ t p, (t, p) ∈ l → S.get t = some p
 | _, .nil, t, p, h => by simp at h
 | _, .cons h1 h2 h3, t, p, h => by
  rcases List.mem_cons.1 h with h | h
  ·cases h; have h2' : _ = _ := h2; rw [← h2']; exact h1
  ·exact h3.get t p h
theorem KeptO.get : ∀ {l : List (Nat × SObj)}, KeptO S l → ∀ t p, (t, p) ∈ l → S.obj t = some p
 | _, .nil, t, p, h => by simp at h
 | _, .cons h1 h2 h3, t, p, h => by
  rcases List.mem_cons.1 h with h | h
  ·cases h; have h2' : _ = _ := h2; rw [← h2']; exact h1
  ·exact h3.get t p h
theorem UsesO.get {ns : List Nat} : ∀ {l : List (Nat × SObj)}, UsesO ns l → ∀ t p, (t, p) ∈ l → p.uses ns
 | _, .nil, t, p, h => by simp at h
 | _, .box h1 h2, t, p, h => by
  rcases List.mem_cons.1 h with h | h
  ·cases h; exact h1
  ·exact h2.get t p h
 | _, .arr h1 h2, t, p, h => by
  rcases List.mem_cons.1 h with h | h
  ·cases h; exact .inl h1
  ·exact h2.get t p h
 | _, .gone h2, t, p, h => by
  rcases List.mem_cons.1 h with h | h
  ·cases h; trivial
  ·exact h2.get t p h
 | _, .arrc h1 h2, t, p, h => by
  rcases List.mem_cons.1 h with h | h
  ·cases h; exact h1
  ·exact h2.get t p h
 | _, .map h1 h2, t, p, h => by
  rcases List.mem_cons.1 h with h | h
  ·cases h; exact h1
  ·exact h2.get t p h
 | _, .iter h2, t, p, h => by
  rcases List.mem_cons.1 h with h | h
  ·cases h; trivial
  ·exact h2.get t p h
 | _, .arrU h1 h2, t, p, h => by
  rcases List.mem_cons.1 h with h | h
  ·cases h; exact .inr h1
  ·exact h2.get t p h
theorem usesT_get {ns : List Nat} : ∀ {l : List (Nat × PV)}, usesT ns l = true → ∀ t p, (t, p) ∈ l → usesOnly ns p = true
 | [], _, t, p, h => by simp at h
 | (k, q) :: r, hu, t, p, h => by
  simp only [usesT, Bool.and_eq_true] at hu
  rcases List.mem_cons.1 h with h | h
  ·cases h; exact hu.1
  ·exact usesT_get hu.2 t p h
theorem rep_uses_all {ns : List Nat} (hL : ∀ n, ns.contains n = true → ∀ l, L n = some l → L' n = some l) (hF : ∀ b, ¬ F b → ¬ F' b) :
  (∀ {p x}, Rep w F L p x → usesOnly ns p = true → Rep w F' L' p x) ∧ (∀ {p x}, RepL w F L p x → usesOnlyL ns p = true → RepL w F' L' p x) := by
 have hE : Ext w F w F' := fun b s hx hn => ⟨hx, hF b hn⟩
 have c : ∀ {L0 p x}, Rep w F L0 p x → L0 = L → usesOnly ns p = true → Rep w F' L' p x := fun {L0 p x} h => by
  refine @Rep.rec w F (fun L0 p x _ => L0 = L → usesOnly ns p = true → Rep w F' L' p x) (fun L0 p x _ => L0 = L → usesOnlyL ns p = true → RepL w F' L' p x) (fun _ _ _ _ => True) (fun _ _ _ _ _ => True) ?_ ?_ ?_ ?_ ?_ ?_ ?_ ?_ ?_ ?_ ?_ ?_ ?_ ?_ ?_ ?_ ?_ ?_ ?_ ?_ ?_ ?_ ?_ ?_ ?_ L0 p x h
  ·exact fun _ x _ _ => .v L' x
  ·exact fun _ ih e hp => .agg (ih e (by simpa [usesOnly] using hp))
  ·exact fun _ ih e hp => .tup (ih e (by simpa [usesOnly] using hp))
  ·exact fun h1 h2 h3 _ _ _ => .sl h1 h2 (h3.mono hE)
  ·exact fun _ sz _ _ => .slNil L' sz
  ·exact fun _ sz a _ _ => .slE L' sz a
  ·exact fun h1 h2 h3 h4 h5 _ _ _ => .mp h1 (hF _ h2) h3 (h4.mono hE (LExt.refl _)) h5
  ·exact fun _ _ _ => .mpNil L'
  ·exact fun h1 h2 h3 h4 h5 h6 _ _ => .it h1 (hF _ h2) h3 (hF _ h4) h5 h6
  ·exact fun h1 h2 _ _ _ => .slf h1 (h2.mono hE)
  ·intro L0 o l x h1 h2 h3 e hp
   subst e
   simp only [usesOnly] at hp
   exact .mref (hL o hp l h1) h2 h3
  ·exact fun h1 _ _ _ => .rp (h1.mono hE)
  ·intro L0 o off l x h1 h2 h3 e hp
   subst e
   simp only [usesOnly] at hp
   exact .ref (hL o hp l h1) h2 h3
  ·intro L0 o i off n l x h1 h2 h3 e hp
   subst e
   simp only [usesOnly] at hp
   exact .eref (hL o hp l h1) h2 h3
  ·intro L0 o off len n l x h1 h2 h3 e hp
   subst e
   simp only [usesOnly] at hp
   exact .osl (hL o hp l h1) h2 h3
  ·exact fun _ _ i1 i2 e hp => by simp [usesOnly] at hp; exact .clo (i1 e hp.1) (i2 e hp.2)
  ·exact fun _ ih e hp => .ifc (ih e (by simpa [usesOnly] using hp))
  ·exact fun _ hu ih e hp => .opt (fun hb => ih hb e (by simpa [usesOnly] using hp)) hu
  ·exact fun _ x _ _ => .dead L' x
  ·exact fun _ _ _ => .nil L'
  ·exact fun _ _ i1 i2 e hp => by simp [usesOnlyL] at hp; exact .cons (i1 e hp.1) (i2 e hp.2)
  ·exact fun _ _ => trivial
  ·exact fun _ _ _ _ _ _ => trivial
  ·exact fun _ _ _ => trivial
  ·exact fun _ _ _ _ _ => trivial
 refine ⟨fun h => c h rfl, fun {p x} h => ?_⟩
 induction p generalizing x with
 | nil => cases h; exact fun _ => .nil _
 | cons d ds ih => cases h with | cons g1 g2 => exact fun hp => by simp [usesOnlyL] at hp; exact .cons (c g1 rfl hp.1) (ih g2 hp.2)
theorem usesOnlyL_mem {ns : List Nat} : ∀ {l : List PV}, usesOnlyL ns l = true → ∀ p ∈ l, usesOnly ns p = true
 | [], _, p, hp => by simp at hp
 | c :: cs, h, p, hp => by
  simp only [usesOnlyL, Bool.and_eq_true] at h
  rcases List.mem_cons.1 hp with rfl | hp
  ·exact h.1
  ·exact usesOnlyL_mem h.2 p hp
theorem Weak.keep {nt : Nat} (hp : S.o.all (fun x => Nat.blt x.1 PN || (S'.o.map (·.1)).contains x.1) = true) (ht : Kept S S'.t) (ho : KeptO S S'.o) (hu : usesT (S'.o.map (·.1)) S'.t = true) (huo : UsesO (S'.o.map (·.1)) S'.o) : Weak nt S S' := by
 intro fr hnt L a w hR
 have hM := hR.mem
 let ns := S'.o.map (·.1)
 let L' : LMap := fun n => if ns.contains n then L n else none
 have hL : ∀ n, ns.contains n = true → ∀ l, L n = some l → L' n = some l := fun n hn l hl => by simp only [L', hn, if_true]; exact hl
 have hL2 : ∀ n l, L' n = some l → L n = some l ∧ ns.contains n = true := fun n l h => by
  simp only [L'] at h
  split at h
  ·rename_i hc; exact ⟨h, hc⟩
  ·simp at h
 have hF : ∀ b, ¬ fr.F L b → ¬ fr.F L' b := fun b hn h => by
  rcases h with h | ⟨n, l, h1, h2⟩
  ·exact hn (.inl h)
  ·exact hn (.inr ⟨n, l, (hL2 n l h1).1, h2⟩)
 have hru := rep_uses_all (w := w) (F := fr.F L) (F' := fr.F L') (L := L) (L' := L') (ns := ns) hL hF
 have hru1 := fun {p x} => @hru.1 p x
 have hCA : ∀ (cs : List PV) (b off : Nat), (∀ c ∈ cs, ∀ x, Rep w (fr.F L) L c x → Rep w (fr.F L') L' c x) → CellsAt w (fr.F L) L cs b off → CellsAt w (fr.F L') L' cs b off := fun cs b off hc h j c hj => by
  obtain ⟨x, h1, h2, h3⟩ := h j c hj
  exact ⟨x, h1, h2, hc c (List.mem_of_getElem? hj) x h3⟩
 refine ⟨L', ⟨fun n ob hn => ?_, fun n l hn => ?_, fun n n' l l' b hn hn' hb hb' => hM.inj n n' l l' b (hL2 n l hn).1 (hL2 n' l' hn').1 hb hb', fun n l b hn hb => hM.place n l b (hL2 n l hn).1 hb, fun n l b hn hb => hM.kind n l b (hL2 n l hn).1 hb, hM.parLt, hM.xLt, hM.frame, fun n l h => ?_⟩, hR.nt, hR.defers, fun t p hp => ?_⟩
 ·have hmem := look_mem hn
  have hn2 := ho.get n ob hmem
  have hns : ns.contains n = true := by
   simp only [ns, List.contains_iff_mem, List.mem_map]
   exact ⟨_, hmem, rfl⟩
  obtain ⟨l, h1, h2⟩ := hM.objs n ob hn2
  refine ⟨l, hL n hns l h1, ?_⟩
  have hus := huo.get n ob hmem
  cases ob with
  | box cs =>
   cases l with
   | box b o' n' => exact ⟨h2.1, hCA cs b o' (fun c hc x hx => hru1 hx (usesOnlyL_mem hus c hc)) h2.2⟩
   | _ => exact h2
  | arr sz isnil es =>
   cases l with
   | arr base n' cap sz' =>
    cases base with
    | none => exact h2
    | some bo =>
     obtain ⟨k1, k2, k3, k4, k5, k6, k7⟩ := h2
     refine ⟨k1, k2, k3, k4, k5, hCA _ _ _ (fun c hc x hx => ?_) k6, k7⟩
     rcases hus with hus | hus
     ·obtain ⟨e, he, hce⟩ := List.mem_flatMap.1 hc
      exact (hx.plain (plain_cells (plainL_mem hus e he) c hce) L').mono (fun b s hx hn => ⟨hx, hF b hn⟩) (LExt.refl _)
     ·exact hru1 hx (usesOnlyL_mem hus c hc)
   | _ => exact h2
  | gone => cases l <;> exact h2
  | arrc sz isnil es cc =>
   cases l with
   | arr base n' cap sz' =>
    cases base with
    | none => exact h2
    | some bo =>
     obtain ⟨k0, k1, k2, k3, k4, k5, k6, k7⟩ := h2
     refine ⟨k0, k1, k2, k3, k4, k5, hCA _ _ _ (fun c hc x hx => ?_) k6, k7⟩
     obtain ⟨e, he, hce⟩ := List.mem_flatMap.1 hc
     exact (hx.plain (plain_cells (plainL_mem hus e he) c hce) L').mono (fun b s hx hn => ⟨hx, hF b hn⟩) (LExt.refl _)
   | _ => exact h2
  | map ks vs =>
   cases l with
   | map b =>
    obtain ⟨es, clock, k1, k2, k3, k4, k5⟩ := h2
    exact ⟨es, clock, k1, k2, (rep_plain_all.2 k3 hus L').mono (fun b s hx hn => ⟨hx, hF b hn⟩) (LExt.refl _), k4, k5⟩
   | _ => exact h2
  | iter nl ks vs seen =>
   cases l with
   | iter b => exact ItAt.mono h2 (fun b s hx hn => ⟨hx, hF b hn⟩) rfl
   | _ => exact h2
 ·obtain ⟨h1, h2⟩ := hL2 n l hn
  simp only [ns, List.contains_iff_mem, List.mem_map] at h2
  obtain ⟨⟨k, ob⟩, hmem, rfl⟩ := h2
  have : ∃ ob', look S'.o k = some ob' := by
   clear hn h1 ho hu huo hp
   generalize S'.o = l at hmem
   induction l with
   | nil => simp at hmem
   | cons y r ih =>
    obtain ⟨k', o'⟩ := y
    rw [look_cons]
    by_cases e : k' = k
    ·exact ⟨o', by simp [e]⟩
    ·rw [if_neg e]
     refine ih ?_
     rcases List.mem_cons.1 hmem with h | h
     ·cases h; exact absurd rfl e
     ·exact h
  exact this
 ·obtain ⟨l', h1, h2⟩ := hM.lext n l h
  obtain ⟨ob, hob⟩ := hM.dom n l' h1
  have hmem := look_mem hob
  have hpn := hnt.2 n l h
  have := (List.all_eq_true.1 hp) _ hmem
  simp only [Bool.or_eq_true] at this
  rcases this with h3 | h3
  ·rw [Nat.blt_eq] at h3; omega
  ·exact ⟨l', hL n h3 l' h1, h2⟩
 ·have hmem := look_mem hp
  obtain ⟨x, h1, h2⟩ := hR.vals t p (ht.get t p hmem)
  exact ⟨x, h1, hru1 h2 (usesT_get hu t p hmem)⟩
inductive ResV (T : Tbl) (S : St) : List ResultVar → List PV → Prop
 | nil : ResV T S [] []
 | cons {t : Nat} {p : PV} {r : List ResultVar} {ps : List PV} : S.get t = some p → ResV T S r ps → ResV T S (.tmp t :: r) (p :: ps)
 | cell {b t : Nat} {x p : PV} {rn : List Nat} {r : List ResultVar} {ps : List PV} {ti : TI} {ag : Option Nat} : S.get b = some x → look T t = some ti → ti.agg = ag → LoadR S ag x rn p → ResV T S r ps → ResV T S (.cell b t :: r) (p :: ps)
inductive ResT : List PV → PV → Prop
 | one {p : PV} : ResT [p] p
 | none : ResT [] (.tup [])
 | many {p q : PV} {r : List PV} : ResT (p :: q :: r) (.tup (p :: q :: r))
def pp : Nat → Nat → List (Nat × Nat)
 | _, 0 => []
 | k, n + 1 => (k, k) :: pp (k + 1) n
def seqN : Nat → Nat → List Nat
 | _, 0 => []
 | k, n + 1 => k :: seqN (k + 1) n
def retσ (k : Nat) (ns : List Nat) : List (Nat × Nat) := pp PN k ++ fwd FN ns
def retL (L : LMap) (k : Nat) (ns : List Nat) : LMap := fun n => match look (pp PN k ++ bwd FN ns) n with | some m => L m | none => none
theorem look_pp : ∀ (n k m o : Nat), look (pp k n) m = some o → o = m ∧ k ≤ m ∧ m < k + n
 | 0, k, m, o, h => by simp [pp, look] at h
 | n + 1, k, m, o, h => by
  simp only [pp] at h
  rw [look_cons] at h
  split at h
  ·rename_i e; subst e; simp at h; exact ⟨h.symm, by omega, by omega⟩
  ·obtain ⟨h1, h2, h3⟩ := look_pp n (k + 1) m o h; exact ⟨h1, by omega, by omega⟩
theorem look_pp_mem : ∀ (n k m : Nat), k ≤ m → m < k + n → look (pp k n) m = some m
 | 0, k, m, h1, h2 => by omega
 | n + 1, k, m, h1, h2 => by
  simp only [pp]
  rw [look_cons]
  by_cases e : k = m
  ·simp [e]
  ·rw [if_neg e, look_pp_mem n (k + 1) m (by omega) (by omega)]
theorem seqN_get : ∀ (n k i : Nat), i < n → (seqN k n)[i]? = some (k + i)
 | 0, _, i, h => by omega
 | n + 1, k, 0, _ => by simp [seqN]
 | n + 1, k, i + 1, h => by simp only [seqN, List.getElem?_cons_succ]; rw [seqN_get n (k + 1) i (by omega)]; congr 1; omega
theorem seqN_length : ∀ (n k : Nat), (seqN k n).length = n
 | 0, _ => rfl
 | n + 1, k => by simp [seqN, seqN_length n]
def Returns (T : Tbl) (S : St) (rv : List ResultVar) (r : PV) (objs' fresh : List SObj) : Prop :=
 ∃ ps p ns B cs fs, ResV T S rv ps ∧ ResT ps p ∧ Objs S (seqN PN objs'.length) cs ∧ Objs S ns fs ∧ distinct ns = true ∧ ns.all (fun n => Nat.blt n PN) = true ∧
  B.all (fun o => Nat.blt o PN && !ns.contains o) = true ∧
  SConvs S (retσ objs'.length ns) B cs objs' ∧ SConvs S (retσ objs'.length ns) B fs fresh ∧ ConvP S (retσ objs'.length ns) B p r
def resOf (a : Act) : ResultVar → Sem Value
 | .tmp t => pure (a.tmps.getD t undef)
 | .cell b t => do loadVar t (← asAddr (a.tmps.getD b undef))
theorem ResV.run (hT : TOk P T) (hR : R fr S L a w) : ∀ {rv : List ResultVar} {ps : List PV}, ResV T S rv ps → ∃ vs : List Value, RepL w (fr.F L) L ps vs ∧ (rv.mapM (resOf a)).run P w = .ok vs w
 | _, _, .nil => ⟨[], .nil _, rfl⟩
 | _, _, .cons h1 h2 => by
  obtain ⟨vs, g1, g2⟩ := ResV.run hT hR h2
  obtain ⟨x, hx, hr⟩ := hR.vals _ _ h1
  refine ⟨x :: vs, .cons hr g1, ?_⟩
  simp only [List.mapM_cons, Sem.run_bind, resOf, Sem.run_pure, Result.andThen_ok, Array.getD_eq_getD_getElem?, hx, Option.getD_some, g2]
 | _, _, .cell h1 hl hag h2 h3 => by
  obtain ⟨vs, g1, g2⟩ := ResV.run hT hR h3
  obtain ⟨x, hx, hr⟩ := hR.vals _ _ h1
  subst hag
  obtain ⟨b, o, y, hv, hld, hq⟩ := h2.sound hT hl hR (fun _ _ => rfl) hr
  refine ⟨y :: vs, .cons hq g1, ?_⟩
  simp [List.mapM_cons, resOf, hx, hv, asAddr, hld, g2]
theorem results_run (hT : TOk P T) {fn : Func} (hR : R fr S L a w) {rv : List ResultVar} {ps : List PV} {p : PV} (hrv : fn.results = rv.toArray) (h : ResV T S rv ps) (ht : ResT ps p) : ∃ v, (results fn a.tmps).run P w = .ok v w ∧ Rep w (fr.F L) L p v := by
 obtain ⟨vs, h1, h2⟩ := ResV.run hT hR h
 have h3 : (fn.results.mapM (resOf a)).run P w = .ok vs.toArray w := by
  rw [hrv, Array.mapM_eq_mapM_toList]
  simp only [Sem.run_map, h2, Result.andThen_ok]
 have hres : results fn a.tmps = (do let vs ← fn.results.mapM (resOf a); pure (if h : vs.size = 1 then vs[0] else .tuple vs)) := by
  unfold results
  congr 1
 cases ht with
 | one =>
  cases h1 with
  | cons k1 k2 =>
   cases k2
   refine ⟨_, ?_, k1⟩
   rw [hres]
   simp only [Sem.run_bind, h3, Result.andThen_ok]
   simp
 | none =>
  cases h1
  refine ⟨.tuple #[], ?_, .tup (.nil _)⟩
  rw [hres]
  simp only [Sem.run_bind, h3, Result.andThen_ok]
  simp
 | many =>
  refine ⟨.tuple vs.toArray, ?_, .tup h1⟩
  have hl := repL_length h1
  rw [hres]
  simp only [Sem.run_bind, h3, Result.andThen_ok]
  rw [dif_neg (by simp at hl ⊢; omega)]
  rfl
theorem ret_state {m : Nat} (hR : R fr S L a w) (hL0 : ∀ n l, fr.L0 n = some l → PN ≤ n ∧ n < PN + m) {r : PV} {objs' fresh : List SObj} (hm : objs'.length = m) (hm2 : m < 100000) {p : PV} {ns B : List Nat} {cs fs : List SObj} (h1 : Objs S (seqN PN objs'.length) cs) (h2 : Objs S ns fs) (h3 : distinct ns = true) (h4 : ns.all (fun n => Nat.blt n PN) = true)
  (h5 : B.all (fun o => Nat.blt o PN && !ns.contains o) = true) (h6 : SConvs S (retσ objs'.length ns) B cs objs') (h7 : SConvs S (retσ objs'.length ns) B fs fresh) (h8 : ConvP S (retσ objs'.length ns) B p r) {v : Value} (hv : Rep w (fr.F L) L p v) :
  RM fr ⟨[], named PN objs' ++ named FN fresh⟩ (retL L objs'.length ns) w ∧ Rep w (fr.F (retL L objs'.length ns)) (retL L objs'.length ns) r v := by
 have hM := hR.mem
 have hnn := distinct_nodup h3
 generalize hk : objs'.length = k at *
 have hns : ∀ n ∈ ns, n < PN := fun n hn => by have := (List.all_eq_true.1 h4) n hn; simpa [Nat.blt_eq] using this
 have hBs : ∀ o, B.contains o = true → o < PN ∧ o ∉ ns := fun o ho => by
  have := (List.all_eq_true.1 h5) o (by simpa using ho)
  simp only [Bool.and_eq_true, Nat.blt_eq, Bool.not_eq_true'] at this
  exact ⟨this.1, by simpa using this.2⟩
 have hrL : ∀ n l, retL L k ns n = some l → (PN ≤ n ∧ n < PN + k ∧ L n = some l) ∨ (∃ j o : Nat, n = FN + j ∧ ns[j]? = some o ∧ L o = some l) := fun n l h => by
  unfold retL at h
  rw [look_append] at h
  cases h1 : look (pp PN k) n with
  | some x =>
   obtain ⟨g1, g2, g3⟩ := look_pp _ _ _ _ h1
   rw [h1] at h
   simp only [Option.some_or] at h
   subst g1
   exact .inl ⟨g2, g3, h⟩
  | none =>
   rw [h1] at h
   simp only [Option.none_or] at h
   cases h2 : look (bwd FN ns) n with
   | none => rw [h2] at h; simp at h
   | some o =>
    rw [h2] at h
    obtain ⟨g1, g2⟩ := look_bwd _ _ _ _ h2
    exact .inr ⟨n - FN, o, by omega, g2, h⟩
 have hrP : ∀ n, PN ≤ n → n < PN + k → retL L k ns n = L n := fun n g1 g2 => by
  unfold retL; rw [look_append, look_pp_mem _ _ _ g1 g2]; rfl
 have hrF : ∀ {j o : Nat}, ns[j]? = some o → retL L k ns (FN + j) = L o := fun {j o} h => by
  unfold retL
  rw [look_append]
  cases h1 : look (pp PN k) (FN + j) with
  | some x => obtain ⟨_, _, g3⟩ := look_pp _ _ _ _ h1; simp only [PN, FN] at g3; omega
  | none => simp only [Option.none_or, look_bwd_mem h]
 have hF : ∀ b, ¬ fr.F L b → ¬ fr.F (retL L k ns) b := fun b hn h => by
  rcases h with h | ⟨n, l, g1, g2⟩
  ·exact hn (.inl h)
  ·rcases hrL n l g1 with ⟨_, _, g3⟩ | ⟨j, o, _, _, g3⟩
   ·exact hn (.inr ⟨n, l, g3, g2⟩)
   ·exact hn (.inr ⟨o, l, g3, g2⟩)
 have hB : ∀ o, B.contains o = true → ∀ l b, L o = some l → l.blk = some b → ¬ fr.F (retL L k ns) b := fun o ho l b hl hb h => by
  obtain ⟨k1, k2⟩ := hBs o ho
  rcases h with h | ⟨n, l', g1, g2⟩
  ·exact (hM.place o l b hl hb).1 h
  ·rcases hrL n l' g1 with ⟨m1, _, g3⟩ | ⟨j, o', _, g4, g3⟩
   ·have := hM.inj o n l l' b hl g3 hb g2; omega
   ·have := hM.inj o o' l l' b hl g3 hb g2
    subst this
    exact k2 (List.mem_of_getElem? g4)
 have hσ : ∀ o o', look (retσ k ns) o = some o' → ∀ l, L o = some l → retL L k ns o' = some l := fun o o' h l hl => by
  unfold retσ at h
  rw [look_append] at h
  cases h1 : look (pp PN k) o with
  | some x =>
   obtain ⟨g1, g2, g3⟩ := look_pp _ _ _ _ h1
   rw [h1] at h; simp at h; subst h; subst g1
   rw [hrP _ g2 g3]; exact hl
  | none =>
   rw [h1] at h; simp at h
   obtain ⟨i, g1, rfl⟩ := look_fwd _ _ _ _ h
   rw [hrF g1]; exact hl
 have hcv := conv_rep_all (L' := retL L k ns) (F' := fr.F (retL L k ns)) hM (σ := retσ k ns) (B := B) hF hB hσ
 obtain ⟨o1, o2⟩ := h1.get
 obtain ⟨o3, o4⟩ := h2.get
 obtain ⟨c1, c2⟩ := h6.get
 obtain ⟨c3, c4⟩ := h7.get
 rw [seqN_length] at o1
 have hobjAt : ∀ {ob ob2 : SObj} {l : Loc}, SConv S (retσ k ns) B ob ob2 → ObjAt w (fr.F L) L ob l → ObjAt w (fr.F (retL L k ns)) (retL L k ns) ob2 l := by
  intro ob ob2 l hc hat
  cases hc with
  | box hcl =>
   cases l with
   | box b off q =>
    obtain ⟨rfl, hcells⟩ := hat
    refine ⟨hcl.get.1, fun j d hj => ?_⟩
    obtain ⟨c, hcj, hcd⟩ := hcl.get.2 j d hj
    obtain ⟨x, g1, g2, g3⟩ := hcells j c hcj
    exact ⟨x, g1, g2, hcv.1 hcd _ g3⟩
   | arr => exact hat.elim
   | gone => exact hat.elim
   | map => exact hat.elim
   | iter => exact hat.elim
  | arr hp =>
   cases l with
   | arr base q cap sz' =>
    obtain ⟨g1, g2, g3, g4, g5, g6⟩ := hat
    refine ⟨g1, g2, g3, g4, g5, ?_⟩
    cases base with
    | none => exact g6
    | some bo =>
     refine ⟨fun j c hj => ?_, g6.2⟩
     obtain ⟨x, k1, k2, k3⟩ := g6.1 j c hj
     have hpc : Sym.plain c = true := by
      simp only [cellsOf] at hj
      obtain ⟨e, he, hce⟩ := List.mem_flatMap.1 (List.mem_of_getElem? hj)
      exact plain_cells (plainL_mem hp e he) c hce
     exact ⟨x, k1, k2, (k3.plain hpc _).mono (fun b s hx hn => ⟨hx, hF b hn⟩) (LExt.refl _)⟩
   | box => exact hat.elim
   | gone => exact hat.elim
   | map => exact hat.elim
   | iter => exact hat.elim
  | map hp =>
   cases l with
   | map b =>
    obtain ⟨es, clock, g1, g2, g3, g4⟩ := hat
    exact ⟨es, clock, g1, g2, (rep_plain_all.2 g3 hp _).mono (fun b s hx hn => ⟨hx, hF b hn⟩) (LExt.refl _), g4⟩
   | _ => exact hat.elim
 have hlookP : ∀ {n : Nat} {ob : SObj}, look (named PN objs' ++ named FN fresh) n = some ob → (∃ i : Nat, n = PN + i ∧ i < k ∧ objs'[i]? = some ob) ∨ (∃ j : Nat, n = FN + j ∧ fresh[j]? = some ob) := fun {n ob} h => by
  rw [look_append, look_named] at h
  split at h
  ·rename_i hle
   cases hg : objs'[n - PN]? with
   | some o =>
    rw [hg] at h
    simp only [Option.some_or, Option.some.injEq] at h
    subst h
    exact .inl ⟨n - PN, by omega, by rw [← hk]; exact (List.getElem?_eq_some_iff.1 hg).1, hg⟩
   | none =>
    rw [hg] at h
    simp only [Option.none_or] at h
    rw [look_named] at h
    split at h
    ·exact .inr ⟨n - FN, by omega, h⟩
    ·simp at h
  ·rename_i hle
   simp only [Option.none_or] at h
   rw [look_named] at h
   split at h
   ·rename_i h2; simp only [PN, FN] at h2 hle; omega
   ·simp at h
 refine ⟨⟨fun n ob hn => ?_, fun n l hn => ?_, fun n n' l l' b hn hn' hb hb' => ?_, fun n l b hn hb => ?_, fun n l b hn hb => ?_, hM.parLt, hM.xLt, hM.frame, fun n l h => ?_⟩, hcv.1 h8 _ hv⟩
 ·rcases hlookP hn with ⟨i, rfl, hi, g1⟩ | ⟨j, rfl, g1⟩
  ·obtain ⟨c, g2, g3⟩ := c2 _ _ g1
   obtain ⟨c', g4, g5⟩ := o2 i (PN + i) (seqN_get _ _ _ hi)
   rw [g2] at g4; cases g4
   obtain ⟨l, g6, g7⟩ := hM.objs _ _ g5
   exact ⟨l, (hrP _ (by omega) (by omega)).trans g6, hobjAt g3 g7⟩
  ·obtain ⟨c, g2, g3⟩ := c4 _ _ g1
   have hjl : j < ns.length := by rw [o3]; exact (List.getElem?_eq_some_iff.1 g2).1
   have hj : ns[j]? = some ns[j] := List.getElem?_eq_getElem hjl
   obtain ⟨c', g4, g5⟩ := o4 j _ hj
   rw [g2] at g4; cases g4
   obtain ⟨l, g6, g7⟩ := hM.objs _ _ g5
   exact ⟨l, (hrF hj).trans g6, hobjAt g3 g7⟩
 ·rcases hrL n l hn with ⟨g1, g2, g3⟩ | ⟨j, o, rfl, g2, g3⟩
  ·refine ⟨objs'[n - PN]'(by omega), ?_⟩
   show look (named PN objs' ++ named FN fresh) n = _
   rw [look_append, look_named, if_pos g1, List.getElem?_eq_getElem (by omega)]; rfl
  ·have hjl := (List.getElem?_eq_some_iff.1 g2).1
   refine ⟨fresh[j]'(by omega), ?_⟩
   show look (named PN objs' ++ named FN fresh) (FN + j) = _
   have hnone : look (named PN objs') (FN + j) = none := by
    rw [look_named]
    split
    ·rw [List.getElem?_eq_none (by simp only [FN, PN]; omega)]
    ·rfl
   rw [look_append, hnone, look_named, if_pos (by omega), show FN + j - FN = j by omega, List.getElem?_eq_getElem (by omega)]; rfl
 ·rcases hrL n l hn with ⟨g1, g2, g3⟩ | ⟨j, o, rfl, g2, g3⟩ <;> rcases hrL n' l' hn' with ⟨g1', g2', g3'⟩ | ⟨j', o', rfl, g2', g3'⟩
  ·exact hM.inj _ _ _ _ _ g3 g3' hb hb'
  ·have := hM.inj _ _ _ _ _ g3 g3' hb hb'
   have := hns o' (List.mem_of_getElem? g2'); omega
  ·have := hM.inj _ _ _ _ _ g3 g3' hb hb'
   have := hns o (List.mem_of_getElem? g2); omega
  ·have := hM.inj _ _ _ _ _ g3 g3' hb hb'
   subst this
   obtain ⟨k1, k2⟩ := List.getElem?_eq_some_iff.1 g2
   obtain ⟨k3, k4⟩ := List.getElem?_eq_some_iff.1 g2'
   rw [(List.getElem_inj hnn).1 (k2.trans k4.symm)]
 ·rcases hrL n l hn with ⟨g1, g2, g3⟩ | ⟨j, o, rfl, g2, g3⟩
  ·exact hM.place n l b g3 hb
  ·exact hM.place o l b g3 hb
 ·rcases hrL n l hn with ⟨g1, g2, g3⟩ | ⟨j, o, rfl, g2, g3⟩
  ·exact hM.kind n l b g3 hb
  ·exact hM.kind o l b g3 hb
 ·obtain ⟨l', g1, g2⟩ := hM.lext n l h
  obtain ⟨g3, g4⟩ := hL0 n l h
  exact ⟨l', (hrP n g3 (by omega)).trans g1, g2⟩
def argT : Nat → List PV → List (Nat × PV)
 | _, [] => []
 | k, p :: r => (k, p) :: argT (k + 1) r
theorem look_argT : ∀ (l : List PV) (k n : Nat), look (argT k l) n = if k ≤ n then l[n - k]? else none
 | [], k, n => by simp [argT, look]
 | o :: r, k, n => by
  simp only [argT]
  rw [look_cons, look_argT r (k + 1) n]
  by_cases h1 : k = n
  ·subst h1; simp
  ·by_cases h2 : k ≤ n
   ·rw [if_neg h1, if_pos h2, if_pos (by omega), show n - k = (n - (k + 1)) + 1 by omega, List.getElem?_cons_succ]
   ·rw [if_neg h1, if_neg h2, if_neg (by omega)]
@[reducible] def RetQ (T : Tbl) (rv : List ResultVar) (r : PV) (objs' fresh : List SObj) : Exit → St → Prop
 | .normal, S => Returns T S rv r objs' fresh
 | .ret, S => Returns T S rv r objs' fresh
 | _, _ => False
theorem Ctr.enter [Globs P] (hT : TOk P T) {f : FuncId} {fn : Func} {c : Code} {args : List PV} {objs objs' fresh : List SObj} {r : PV} {rv : List ResultVar} {nt : Nat} (hf : P.funcs[f]? = some fn) (hb : fn.body = some c) (hname : (fn.name == "runtime.NumGoroutine") = false) (hrv : fn.results = rv.toArray)
  (hnt : fn.ntmps = nt) (hn : Nat.ble args.length nt = true) (hol : Nat.beq objs'.length objs.length = true) (hsm : Nat.blt objs.length 100000 = true) (h : Trip P nt ⟨argT 0 args, named PN objs⟩ c (RetQ T rv r objs' fresh)) : Ctr P f args objs r objs' fresh := by
 have hn' := Nat.le_of_ble_eq_true hn
 have hol' := Nat.eq_of_beq_eq_true hol
 have hsm' : objs.length < 100000 := by simpa [Nat.blt_eq] using hsm
 refine ⟨⟨fn, hf, by simp [hb], hname⟩, fun fr w vals hw0 hG hM hargs => ?_⟩
 refine calls_of_wp hf hb ?_
 have hlen := repL_length hargs
 let fr' : Fr := { fr with nt := nt }
 have hL0 : ∀ n l, fr.L0 n = some l → PN ≤ n ∧ n < PN + objs.length := fun n l hl => by
  obtain ⟨ob, hob⟩ := hM.dom n l hl
  have hob' : look (named PN objs) n = some ob := hob
  rw [look_named] at hob'
  split at hob'
  ·have := (List.getElem?_eq_some_iff.1 hob').1; omega
  ·simp at hob'
 have hR : R fr' ⟨argT 0 args, named PN objs⟩ fr.L0 { tmps := vals.toArray ++ Array.replicate (fn.ntmps - vals.toArray.size) undef, defers := [] } w := by
  refine ⟨⟨hM.objs, hM.dom, hM.inj, hM.place, hM.kind, hM.parLt, hM.xLt, ⟨hM.frame.os, hM.frame.tape, hM.frame.output, hM.frame.size, hM.frame.block, hM.frame.part, hM.frame.glob, hM.frame.gpar⟩, hM.lext⟩, ?_, rfl, fun t p hp => ?_⟩
  ·simp [fr']; omega
  ·have hp' : look (argT 0 args) t = some p := hp
   rw [look_argT] at hp'
   simp at hp'
   obtain ⟨x, h1, h2⟩ := repL_get hargs t p hp'
   have htl := (List.getElem?_eq_some_iff.1 h1).1
   refine ⟨x, ?_, h2⟩
   rw [Array.getElem?_append_left (by simpa using htl)]
   simpa using h1
 refine wp_mono (h fr' ⟨rfl, fun n l hl => (hL0 n l hl).1⟩ hG fr.L0 _ w hR) ?_
 have fin : ∀ {S' L' a' w'}, R fr' S' L' a' w' → Returns T S' rv r objs' fresh → a'.defers = [] ∧ ∃ v, (results fn a'.tmps).run P w' = .ok v w' ∧ ∃ v' L2, Ending.returned v = .returned v' ∧ objs'.length = objs.length ∧ RM fr ⟨[], named PN objs' ++ named FN fresh⟩ L2 w' ∧ Rep w' (fr.F L2) L2 r v' := by
  intro S' L' a' w' hR' hret
  obtain ⟨ps, p, ns, B, cs, fs, k1, k2, k3, k4, k5, k6, k7, k8, k9, k10⟩ := hret
  obtain ⟨v, hv1, hv2⟩ := results_run hT hR' hrv k1 k2
  obtain ⟨g1, g2⟩ := ret_state (m := objs.length) hR' hL0 hol' hsm' k3 k4 k5 k6 k7 k8 k9 k10 hv2
  exact ⟨hR'.defers, v, hv1, v, _, rfl, hol', ⟨g1.objs, g1.dom, g1.inj, g1.place, g1.kind, g1.parLt, g1.xLt, ⟨g1.frame.os, g1.frame.tape, g1.frame.output, g1.frame.size, g1.frame.block, g1.frame.part, g1.frame.glob, g1.frame.gpar⟩, g1.lext⟩, g2⟩
 rintro e a' w' ⟨S', L', h1, h2⟩
 cases e with
 | normal => exact fin h1 h2
 | ret => exact fin h1 h2
 | _ => exact h2.elim
end
end Go.Sym
