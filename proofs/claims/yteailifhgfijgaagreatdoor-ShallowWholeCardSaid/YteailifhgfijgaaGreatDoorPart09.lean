/- A part of the proof: SymL, SymM. -/
import Derived.Test.YteailifhgfijgaaGreatDoorPart08
set_option linter.unusedVariables false
set_option linter.unusedSimpArgs false
namespace Go.Sym
open Go.RowKit
mutual
def plain : PV → Bool
 | .v _ => true
 | .sl _ _ _ => true
 | .rp _ => true
 | .agg cs => plainL cs
 | .tup cs => plainL cs
 | .clo _ f c => plainL f && plainL c
 | .ifc _ x => plain x
 | .dead => true
 | .mp _ _ _ => true
 | .it _ _ => true
 | .slf _ _ => true
 | _ => false
def plainL : List PV → Bool
 | [] => true
 | c :: cs => plain c && plainL cs
end
mutual
inductive ConvP (S : St) (σ : List (Nat × Nat)) (B : List Nat) : PV → PV → Prop
 | v {x : Value} : ConvP S σ B (.v x) (.v x)
 | agg {cs ds : List PV} : ConvL S σ B cs ds → ConvP S σ B (.agg cs) (.agg ds)
 | tup {cs ds : List PV} : ConvL S σ B cs ds → ConvP S σ B (.tup cs) (.tup ds)
 | sl {nl : Bool} {sz : Nat} {es : List PV} : ConvP S σ B (.sl nl sz es) (.sl nl sz es)
 | rp {cs : List PV} : ConvP S σ B (.rp cs) (.rp cs)
 | ref {o o' k : Nat} : look σ o = some o' → ConvP S σ B (.ref o k) (.ref o' k)
 | eref {o o' i k n : Nat} : look σ o = some o' → ConvP S σ B (.eref o i k n) (.eref o' i k n)
 | osl {o o' off len n : Nat} : look σ o = some o' → ConvP S σ B (.osl o off len n) (.osl o' off len n)
 | clo {fn : Fn} {f f' c c' : List PV} : ConvL S σ B f f' → ConvL S σ B c c' → ConvP S σ B (.clo fn f c) (.clo fn f' c')
 | ifc {t : TypeId} {x y : PV} : ConvP S σ B x y → ConvP S σ B (.ifc t x) (.ifc t y)
 | mref {o o' : Nat} : look σ o = some o' → ConvP S σ B (.mref o) (.mref o')
 | bArr {o n sz : Nat} {nl : Bool} {es : List PV} : B.contains o = true → S.obj o = some (.arr sz nl es) → Side (n = es.length) → Side (plainL es = true) → ConvP S σ B (.osl o 0 n n) (.sl nl sz es)
 | bView {o off len n sz : Nat} {nl : Bool} {es : List PV} : B.contains o = true → S.obj o = some (.arr sz nl es) → Side (n = es.length) → Side (plainL es = true) → ConvP S σ B (.osl o off len n) (.sl nl sz ((es.drop off).take len))
 | bBox {o k : Nat} {cs ds : List PV} : B.contains o = true → S.obj o = some (.box cs) → plainL cs = true → DropR k cs ds → ConvP S σ B (.ref o k) (.rp ds)
 | dead {p : PV} : ConvP S σ B p .dead
 | nilS {sz : Nat} : ConvP S σ B nilS (.sl true sz [])
 | nilR {sz : Nat} : ConvP S σ B (.sl true sz []) nilS
 | mp {nl : Bool} {ks : List Value} {vs : List PV} : ConvP S σ B (.mp nl ks vs) (.mp nl ks vs)
 | bMap {o : Nat} {ks : List Value} {vs : List PV} : B.contains o = true → S.obj o = some (.map ks vs) → Side (plainL vs = true) → ConvP S σ B (.mref o) (.mp false ks vs)
 | nilM : ConvP S σ B (.v (.map none)) (.mp true [] [])
 | it {g : Nat} {ks : List Value} : ConvP S σ B (.it g ks) (.it g ks)
 | slf {sz : Nat} {es : List PV} : ConvP S σ B (.slf sz es) (.slf sz es)
inductive ConvL (S : St) (σ : List (Nat × Nat)) (B : List Nat) : List PV → List PV → Prop
 | nil : ConvL S σ B [] []
 | cons {c d : PV} {cs ds : List PV} : ConvP S σ B c d → ConvL S σ B cs ds → ConvL S σ B (c :: cs) (d :: ds)
end
section
variable {P : Program} {T : Tbl} {fr : Fr} {S S' : St} {L L' : LMap} {a : Act} {w : World} {F F' : Nat → Prop}
theorem rep_plain_all : (∀ {L p x}, Rep w F L p x → plain p = true → ∀ L', Rep w F L' p x) ∧ (∀ {L p x}, RepL w F L p x → plainL p = true → ∀ L', RepL w F L' p x) := by
 constructor
 ·intro L p x h
  refine @Rep.rec w F (fun L p x _ => plain p = true → ∀ L', Rep w F L' p x) (fun L p x _ => plainL p = true → ∀ L', RepL w F L' p x) (fun _ _ _ _ => True) (fun _ _ _ _ _ => True) ?_ ?_ ?_ ?_ ?_ ?_ ?_ ?_ ?_ ?_ ?_ ?_ ?_ ?_ ?_ ?_ ?_ ?_ ?_ ?_ ?_ ?_ ?_ ?_ ?_ L p x h
  ·exact fun _ x _ L' => .v L' x
  ·exact fun _ ih hp L' => .agg (ih (by simpa [plain] using hp) L')
  ·exact fun _ ih hp L' => .tup (ih (by simpa [plain] using hp) L')
  ·exact fun h1 h2 h3 _ _ L' => .sl h1 h2 h3
  ·exact fun _ sz _ L' => .slNil L' sz
  ·exact fun _ sz a _ L' => .slE L' sz a
  ·exact fun h1 h2 h3 h4 h5 _ _ L' => .mp h1 h2 h3 h4 h5
  ·exact fun _ _ L' => .mpNil L'
  ·exact fun h1 h2 h3 h4 h5 h6 _ L' => .it h1 h2 h3 h4 h5 h6
  ·exact fun h1 h2 _ _ L' => .slf h1 h2
  ·exact fun _ _ _ hp => by simp [plain] at hp
  ·exact fun h1 _ _ L' => .rp h1
  ·exact fun _ _ _ hp => by simp [plain] at hp
  ·exact fun _ _ _ hp => by simp [plain] at hp
  ·exact fun _ _ _ hp => by simp [plain] at hp
  ·exact fun _ _ i1 i2 hp L' => by simp [plain] at hp; exact .clo (i1 hp.1 L') (i2 hp.2 L')
  ·exact fun _ ih hp L' => .ifc (ih (by simpa [plain] using hp) L')
  ·exact fun _ _ _ hp => by simp [plain] at hp
  ·exact fun _ x _ L' => .dead L' x
  ·exact fun _ _ L' => .nil L'
  ·exact fun _ _ i1 i2 hp L' => by simp [plainL] at hp; exact .cons (i1 hp.1 L') (i2 hp.2 L')
  ·exact fun _ _ => trivial
  ·exact fun _ _ _ _ _ _ => trivial
  ·exact fun _ _ _ => trivial
  ·exact fun _ _ _ _ _ => trivial
 ·intro L p x h
  refine @RepL.rec w F (fun L p x _ => plain p = true → ∀ L', Rep w F L' p x) (fun L p x _ => plainL p = true → ∀ L', RepL w F L' p x) (fun _ _ _ _ => True) (fun _ _ _ _ _ => True) ?_ ?_ ?_ ?_ ?_ ?_ ?_ ?_ ?_ ?_ ?_ ?_ ?_ ?_ ?_ ?_ ?_ ?_ ?_ ?_ ?_ ?_ ?_ ?_ ?_ L p x h
  ·exact fun _ x _ L' => .v L' x
  ·exact fun _ ih hp L' => .agg (ih (by simpa [plain] using hp) L')
  ·exact fun _ ih hp L' => .tup (ih (by simpa [plain] using hp) L')
  ·exact fun h1 h2 h3 _ _ L' => .sl h1 h2 h3
  ·exact fun _ sz _ L' => .slNil L' sz
  ·exact fun _ sz a _ L' => .slE L' sz a
  ·exact fun h1 h2 h3 h4 h5 _ _ L' => .mp h1 h2 h3 h4 h5
  ·exact fun _ _ L' => .mpNil L'
  ·exact fun h1 h2 h3 h4 h5 h6 _ L' => .it h1 h2 h3 h4 h5 h6
  ·exact fun h1 h2 _ _ L' => .slf h1 h2
  ·exact fun _ _ _ hp => by simp [plain] at hp
  ·exact fun h1 _ _ L' => .rp h1
  ·exact fun _ _ _ hp => by simp [plain] at hp
  ·exact fun _ _ _ hp => by simp [plain] at hp
  ·exact fun _ _ _ hp => by simp [plain] at hp
  ·exact fun _ _ i1 i2 hp L' => by simp [plain] at hp; exact .clo (i1 hp.1 L') (i2 hp.2 L')
  ·exact fun _ ih hp L' => .ifc (ih (by simpa [plain] using hp) L')
  ·exact fun _ _ _ hp => by simp [plain] at hp
  ·exact fun _ x _ L' => .dead L' x
  ·exact fun _ _ L' => .nil L'
  ·exact fun _ _ i1 i2 hp L' => by simp [plainL] at hp; exact .cons (i1 hp.1 L') (i2 hp.2 L')
  ·exact fun _ _ => trivial
  ·exact fun _ _ _ _ _ _ => trivial
  ·exact fun _ _ _ => trivial
  ·exact fun _ _ _ _ _ => trivial
theorem Rep.plain {p : PV} {x : Value} (h : Rep w F L p x) (hp : plain p = true) (L' : LMap) : Rep w F L' p x := rep_plain_all.1 h hp L'
theorem plainL_mem : ∀ {l : List PV}, plainL l = true → ∀ p ∈ l, Sym.plain p = true
 | [], _, p, hp => by simp at hp
 | c :: cs, h, p, hp => by
  simp only [plainL, Bool.and_eq_true] at h
  rcases List.mem_cons.1 hp with rfl | hp
  ·exact h.1
  ·exact plainL_mem h.2 p hp
theorem plainL_of : ∀ {l : List PV}, (∀ p ∈ l, Sym.plain p = true) → plainL l = true
 | [], _ => rfl
 | c :: cs, h => by simp only [plainL, Bool.and_eq_true]; exact ⟨h c (by simp), plainL_of fun p hp => h p (by simp [hp])⟩
theorem plain_cells {p : PV} (h : Sym.plain p = true) : ∀ c ∈ p.cells, Sym.plain c = true := by
 intro c hc
 cases p with
 | agg cs => simp only [Sym.plain] at h; exact plainL_mem h c hc
 | _ => simp only [PV.cells, List.mem_singleton] at hc; subst hc; exact h
theorem rows_of_cells {b : Nat} {sz : Nat} (hF' : ¬ F' b) (hext : ∀ b', ¬ F b' → ¬ F' b') : ∀ {es : List PV} {off : Nat}, (∀ e ∈ es, e.cells.length = sz) → plainL es = true →
  (∀ (j : Nat) c, (cellsOf es)[j]? = some c → ∃ x, w.cell? ⟨b, off + j, none⟩ = some x ∧ Rep w F L c x) → Rows w F' sz es b off
 | [], _, _, _, _ => .nil _ _ _
 | e :: es, off, hs, hp, hc => by
  have he := hs e (by simp)
  simp only [plainL, Bool.and_eq_true] at hp
  have hE : Ext w F w F' := fun b s hx hn => ⟨hx, hext b hn⟩
  refine .cons he ?_ (rows_of_cells hF' hext (fun e h => hs e (by simp [h])) hp.2 (fun j c hj => ?_))
  ·have hpc := plain_cells hp.1
   have hcc : ∀ (j : Nat) c, e.cells[j]? = some c → ∃ x, w.cell? ⟨b, off + j, none⟩ = some x ∧ Rep w F L c x := fun j c hj => hc j c (by
    simp only [cellsOf, List.flatMap_cons]
    rw [List.getElem?_append_left (List.getElem?_eq_some_iff.1 hj).1]; exact hj)
   clear hc he hs hp
   generalize e.cells = cs at hpc hcc
   induction cs generalizing off with
   | nil => exact .nil _ _
   | cons c cs ih =>
    obtain ⟨x, h1, h2⟩ := hcc 0 c rfl
    refine .cons h1 hF' ((h2.plain (hpc c (by simp)) noL).mono hE (LExt.refl _)) (ih _ (fun d hd => hpc d (by simp [hd])) (fun j d hd => ?_))
    obtain ⟨y, g1, g2⟩ := hcc (j + 1) d (by simpa using hd)
    exact ⟨y, by rw [show off + 1 + j = off + (j + 1) by omega]; exact g1, g2⟩
  ·obtain ⟨x, h1, h2⟩ := hc (sz + j) c (by
    simp only [cellsOf, List.flatMap_cons]
    rw [List.getElem?_append_right (by omega), he]
    simpa [cellsOf] using hj)
   exact ⟨x, by rw [Nat.add_assoc]; exact h1, h2⟩
theorem row_of_cells {b : Nat} (hF' : ¬ F' b) (hext : ∀ b', ¬ F b' → ¬ F' b') : ∀ {cs : List PV} {off : Nat}, plainL cs = true → (∀ (j : Nat) c, cs[j]? = some c → ∃ x, w.cell? ⟨b, off + j, none⟩ = some x ∧ Rep w F L c x) → Row w F' cs b off
 | [], _, _, _ => .nil _ _
 | c :: cs, off, hp, hc => by
  simp only [plainL, Bool.and_eq_true] at hp
  have hE : Ext w F w F' := fun b s hx hn => ⟨hx, hext b hn⟩
  obtain ⟨x, h1, h2⟩ := hc 0 c rfl
  refine .cons h1 hF' ((h2.plain hp.1 noL).mono hE (LExt.refl _)) (row_of_cells hF' hext hp.2 (fun j d hd => ?_))
  obtain ⟨y, g1, g2⟩ := hc (j + 1) d (by simpa using hd)
  exact ⟨y, by rw [show off + 1 + j = off + (j + 1) by omega]; exact g1, g2⟩
theorem conv_rep_all (hM : RM fr S L w) {σ : List (Nat × Nat)} {B : List Nat} (hF : ∀ b, ¬ fr.F L b → ¬ F' b) (hB : ∀ o, B.contains o = true → ∀ l b, L o = some l → l.blk = some b → ¬ F' b)
  (hσ : ∀ o o', look σ o = some o' → ∀ l, L o = some l → L' o' = some l) :
  (∀ {p q}, ConvP S σ B p q → ∀ x, Rep w (fr.F L) L p x → Rep w F' L' q x) ∧ (∀ {p q}, ConvL S σ B p q → ∀ x, RepL w (fr.F L) L p x → RepL w F' L' q x) := by
 have hE : Ext w (fr.F L) w F' := fun b s hx hn => ⟨hx, hF b hn⟩
 have harr : ∀ {o sz nl es}, S.obj o = some (.arr sz nl es) → ∃ base cap, L o = some (.arr base es.length cap sz) ∧ es.length ≤ cap ∧ nl = base.isNone ∧ (∀ e ∈ es, e.cells.length = sz) ∧
   match base with
   | none => cap = 0
   | some (b, off) => CellsAt w (fr.F L) L (cellsOf es) b off ∧ ∀ j, j < cap * sz → ∃ x, w.cell? ⟨b, off + j, none⟩ = some x ∧ w.frozen? ⟨b, off + j, none⟩ = false := fun {o sz nl es} h => by
  obtain ⟨l, h1, h2⟩ := hM.objs o _ h
  cases l with
  | arr base n cap sz' => obtain ⟨rfl, rfl, h3, h4, h5, h6⟩ := h2; exact ⟨base, cap, h1, h3, h4, h5, h6⟩
  | box => exact h2.elim
  | gone => exact h2.elim
  | map => exact h2.elim
  | iter => exact h2.elim
 have m1 : ∀ {x : Value}, ∀ y, Rep w (fr.F L) L (.v x) y → Rep w F' L' (.v x) y := fun y h => by cases h; exact .v _ _
 have mView : ∀ {o off len n sz nl es}, B.contains o = true → S.obj o = some (.arr sz nl es) → n = es.length → plainL es = true → ∀ y, Rep w (fr.F L) L (.osl o off len n) y → Rep w F' L' (.sl nl sz ((es.drop off).take len)) y := by
  intro o off len n sz nl es h1 h2 h3 h4 y hy
  obtain ⟨base, cap, hl, hcap, hnl, hsz, hc⟩ := harr h2
  obtain ⟨s1, s2⟩ := hy.osl_at hl h3
  cases base with
  | none =>
   simp only at hc s2
   subst s2
   have h0 : (es.drop off).take len = [] := List.eq_nil_of_length_eq_zero (by simp; omega)
   simp at hnl
   rw [h0, hnl]
   exact .slNil _ _
  | some bo =>
   obtain ⟨b, o'⟩ := bo
   obtain ⟨q, c, rfl, hlc, hpos, hq0, hcc⟩ := s2
   simp at hnl
   subst hnl
   have hlen : ((es.drop off).take len).length = len := by simp; omega
   by_cases hz : len = 0
   ·subst hz
    exact .sl hlen.symm hlc (by simp; exact .nil _ _ _)
   ·have := hpos (by omega)
    subst this
    have hp2 : plainL ((es.drop off).take len) = true := plainL_of fun p hp => plainL_mem h4 p (List.mem_of_mem_drop (List.mem_of_mem_take hp))
    refine .sl hlen.symm hlc (rows_of_cells (L := L) (hB o h1 _ b hl rfl) hF (fun e he => hsz e (List.mem_of_mem_drop (List.mem_of_mem_take he))) hp2 (fun j c hj => ?_))
    rw [cellsOf_take (fun e he => hsz e (List.mem_of_mem_drop he)), List.getElem?_take] at hj
    split at hj
    ·rw [cellsOf_drop hsz, List.getElem?_drop] at hj
     obtain ⟨y, g1, _, g2⟩ := hc.1 _ c hj
     exact ⟨y, by rw [Nat.add_assoc]; exact g1, g2⟩
    ·simp at hj
 have mArr : ∀ {o n sz nl es}, B.contains o = true → S.obj o = some (.arr sz nl es) → n = es.length → plainL es = true → ∀ y, Rep w (fr.F L) L (.osl o 0 n n) y → Rep w F' L' (.sl nl sz es) y := by
  intro o n sz nl es h1 h2 h3 h4 y hy
  have := mView h1 h2 h3 h4 y hy
  rw [List.drop_zero, h3, List.take_length] at this
  exact this
 have mBox : ∀ {o k cs ds}, B.contains o = true → S.obj o = some (.box cs) → plainL cs = true → DropR k cs ds → ∀ y, Rep w (fr.F L) L (.ref o k) y → Rep w F' L' (.rp ds) y := by
  intro o k cs ds h1 h2 h3 h4 y hy
  obtain ⟨l, g1, g2⟩ := hM.objs o _ h2
  cases l with
  | box b off n =>
   obtain ⟨rfl, hcs⟩ := g2
   have := hy.ref_at g1
   subst this
   obtain ⟨d1, d2⟩ := h4.eq
   refine .rp (row_of_cells (L := L) (hB o h1 _ b g1 rfl) hF (plainL_of fun p hp => plainL_mem h3 p (by rw [d1] at hp; exact List.mem_of_mem_drop hp)) (fun j c hj => ?_))
   rw [d1, List.getElem?_drop] at hj
   obtain ⟨y, g1, _, g2⟩ := hcs _ c hj
   exact ⟨y, by rw [Nat.add_assoc]; exact g1, g2⟩
  | arr => exact g2.elim
  | gone => exact g2.elim
  | map => exact g2.elim
  | iter => exact g2.elim
 have mSl : ∀ {nl sz es}, ∀ y, Rep w (fr.F L) L (.sl nl sz es) y → Rep w F' L' (.sl nl sz es) y := fun y hy => (hy.plain rfl L').mono hE (LExt.refl L')
 have mRp : ∀ {cs}, ∀ y, Rep w (fr.F L) L (.rp cs) y → Rep w F' L' (.rp cs) y := fun y hy => (hy.plain rfl L').mono hE (LExt.refl L')
 have mMp : ∀ {nl ks vs}, ∀ y, Rep w (fr.F L) L (.mp nl ks vs) y → Rep w F' L' (.mp nl ks vs) y := fun y hy => (hy.plain rfl L').mono hE (LExt.refl L')
 have mMap : ∀ {o ks vs}, B.contains o = true → S.obj o = some (.map ks vs) → plainL vs = true → ∀ y, Rep w (fr.F L) L (.mref o) y → Rep w F' L' (.mp false ks vs) y := by
  intro o ks vs h1 h2 h3 y hy
  obtain ⟨l, g1, g2⟩ := hM.objs o _ h2
  cases l with
  | map b =>
   obtain ⟨es, clock, k1, k2, k3, k4, k5⟩ := g2
   cases hy with
   | mref q1 q2 q3 =>
    rw [g1] at q1; cases q1
    have : y = .map (some b) := q2
    subst this
    exact .mp k1 (hB o h1 _ b g1 rfl) k2 ((rep_plain_all.2 k3 h3 noL).mono hE (LExt.refl _)) ⟨k4, k5⟩
  | _ => exact g2.elim
 have c1 : ∀ {p q}, ConvP S σ B p q → ∀ x, Rep w (fr.F L) L p x → Rep w F' L' q x := fun {p q} h => by
  refine @ConvP.rec S σ B (fun p q _ => ∀ x, Rep w (fr.F L) L p x → Rep w F' L' q x) (fun p q _ => ∀ x, RepL w (fr.F L) L p x → RepL w F' L' q x) ?_ ?_ ?_ ?_ ?_ ?_ ?_ ?_ ?_ ?_ ?_ ?_ ?_ ?_ ?_ ?_ ?_ ?_ ?_ ?_ ?_ ?_ ?_ ?_ p q h
  ·exact m1
  ·exact fun _ ih x hx => by cases hx with | agg hx => exact .agg (ih _ hx)
  ·exact fun _ ih x hx => by cases hx with | tup hx => exact .tup (ih _ hx)
  ·exact mSl
  ·exact mRp
  ·exact fun hl x hx => by cases hx with | ref g1 g2 g3 => exact .ref (hσ _ _ hl _ g1) g2 g3
  ·exact fun hl x hx => by cases hx with | eref g1 g2 g3 => exact .eref (hσ _ _ hl _ g1) g2 g3
  ·exact fun hl x hx => by cases hx with | osl g1 g2 g3 => exact .osl (hσ _ _ hl _ g1) g2 g3
  ·exact fun _ _ i1 i2 x hx => by cases hx with | clo g1 g2 => exact .clo (i1 _ g1) (i2 _ g2)
  ·exact fun _ ih x hx => by cases hx with | ifc g1 => exact .ifc (ih _ g1)
  ·exact fun hl x hx => by cases hx with | mref g1 g2 g3 => exact .mref (hσ _ _ hl _ g1) g2 g3
  ·exact fun h1 h2 h3 h4 => mArr h1 h2 h3 h4
  ·exact fun h1 h2 h3 h4 => mView h1 h2 h3 h4
  ·exact fun h1 h2 h3 h4 => mBox h1 h2 h3 h4
  ·exact fun x _ => .dead _ _
  ·exact fun x hx => by have := hx.inv_v; subst this; exact .slNil _ _
  ·exact fun x hx => by cases hx with | slNil => exact .v _ _
  ·exact mMp
  ·exact fun h1 h2 h3 => mMap h1 h2 h3
  ·exact fun x hx => by have := hx.inv_v; subst this; exact .mpNil _
  ·exact fun x hx => (hx.plain rfl L').mono hE (LExt.refl L')
  ·exact fun x hx => (hx.plain rfl L').mono hE (LExt.refl L')
  ·exact fun x hx => by cases hx; exact .nil _
  ·exact fun _ _ i1 i2 x hx => by cases hx with | cons g1 g2 => exact .cons (i1 _ g1) (i2 _ g2)
 refine ⟨c1, fun {p q} h => ?_⟩
 induction q generalizing p with
 | nil => cases h; exact fun x hx => by cases hx; exact .nil _
 | cons d ds ih => cases h with | cons g1 g2 => exact fun x hx => by cases hx with | cons k1 k2 => exact .cons (c1 g1 _ k1) (ih g2 _ k2)
end
end Go.Sym
namespace Go.Sym
open Go.RowKit
def named : Nat → List SObj → List (Nat × SObj)
 | _, [] => []
 | k, o :: r => (k, o) :: named (k + 1) r
def PN : Nat := 100000
def FN : Nat := 200000
theorem look_named : ∀ (l : List SObj) (k n : Nat), look (named k l) n = if k ≤ n then l[n - k]? else none
 | [], k, n => by simp [named, look]
 | o :: r, k, n => by
  simp only [named]
  rw [look_cons, look_named r (k + 1) n]
  by_cases h1 : k = n
  ·subst h1; simp
  ·by_cases h2 : k ≤ n
   ·rw [if_neg h1, if_pos h2, if_pos (by omega), show n - k = (n - (k + 1)) + 1 by omega, List.getElem?_cons_succ]
   ·rw [if_neg h1, if_neg h2, if_neg (by omega)]
def callable (P : Program) (f : FuncId) : Prop := ∃ fn, P.funcs[f]? = some fn ∧ fn.body.isSome = true ∧ (fn.name == "runtime.NumGoroutine") = false
def Ctr (P : Program) [Globs P] (f : FuncId) (args : List PV) (objs : List SObj) (r : PV) (objs' fresh : List SObj) : Prop :=
 callable P f ∧
 ∀ (fr : Fr) (w : World) (vals : List Value), fr.w0 = w → fr.gl = Globs.gl P → RM fr ⟨[], named PN objs⟩ fr.L0 w → RepL w (fr.F fr.L0) fr.L0 args vals →
  Calls P f vals.toArray w fun e w' => ∃ v L', e = .returned v ∧ objs'.length = objs.length ∧ RM fr ⟨[], named PN objs' ++ named FN fresh⟩ L' w' ∧ Rep w' (fr.F L') L' r v
inductive SConv (S : St) (σ : List (Nat × Nat)) (B : List Nat) : SObj → SObj → Prop
 | box {cs ds : List PV} : ConvL S σ B cs ds → SConv S σ B (.box cs) (.box ds)
 | arr {sz : Nat} {nl : Bool} {es : List PV} : Side (plainL es = true) → SConv S σ B (.arr sz nl es) (.arr sz nl es)
 | map {ks : List Value} {vs : List PV} : Side (plainL vs = true) → SConv S σ B (.map ks vs) (.map ks vs)
inductive SConvs (S : St) (σ : List (Nat × Nat)) (B : List Nat) : List SObj → List SObj → Prop
 | nil : SConvs S σ B [] []
 | cons {o o' : SObj} {r r' : List SObj} : SConv S σ B o o' → SConvs S σ B r r' → SConvs S σ B (o :: r) (o' :: r')
inductive Objs (S : St) : List Nat → List SObj → Prop
 | nil : Objs S [] []
 | cons {n : Nat} {ns : List Nat} {o : SObj} {os : List SObj} : S.obj n = some o → Objs S ns os → Objs S (n :: ns) (o :: os)
inductive NoObjs (S : St) : List Nat → Prop
 | nil : NoObjs S []
 | cons {n : Nat} {ns : List Nat} : S.obj n = none → NoObjs S ns → NoObjs S (n :: ns)
def fwd : Nat → List Nat → List (Nat × Nat)
 | _, [] => []
 | k, n :: r => (n, k) :: fwd (k + 1) r
def bwd : Nat → List Nat → List (Nat × Nat)
 | _, [] => []
 | k, n :: r => (k, n) :: bwd (k + 1) r
def zipO : List Nat → List SObj → List (Nat × SObj)
 | n :: ns, o :: os => (n, o) :: zipO ns os
 | _, _ => []
mutual
def roFree : PV → Bool
 | .v _ => true
 | .sl _ _ es => es.isEmpty
 | .rp _ => false
 | .agg cs => roFreeL cs
 | .tup cs => roFreeL cs
 | .clo _ f c => roFreeL f && roFreeL c
 | .ifc _ x => roFree x
 | .ref _ _ => true
 | .eref _ _ _ _ => true
 | .osl _ _ _ _ => true
 | .dead => true
 | .opt _ _ => false
 | .mref _ => true
 | .mp nl _ _ => nl
 | .it _ _ => false
 | .slf _ _ => false
def roFreeL : List PV → Bool
 | [] => true
 | c :: cs => roFree c && roFreeL cs
end
def distinct : List Nat → Bool
 | [] => true
 | n :: r => !r.contains n && distinct r
theorem distinct_nodup : ∀ {l : List Nat}, distinct l = true → l.Nodup
 | [], _ => List.nodup_nil
 | n :: r, h => by
  simp only [distinct, Bool.and_eq_true, Bool.not_eq_true'] at h
  exact List.nodup_cons.2 ⟨by have := h.1; simpa using this, distinct_nodup h.2⟩
theorem look_fwd : ∀ (l : List Nat) (k n m : Nat), look (fwd k l) n = some m → ∃ i, l[i]? = some n ∧ m = k + i
 | [], k, n, m, h => by simp [fwd, look] at h
 | x :: r, k, n, m, h => by
  simp only [fwd] at h
  rw [look_cons] at h
  split at h
  ·rename_i e; subst e; simp at h; exact ⟨0, by simp, by omega⟩
  ·obtain ⟨i, h1, h2⟩ := look_fwd r (k + 1) n m h
   exact ⟨i + 1, by simpa using h1, by omega⟩
theorem look_fwd_mem : ∀ {l : List Nat}, l.Nodup → ∀ (k i n : Nat), l[i]? = some n → look (fwd k l) n = some (k + i)
 | [], _, k, i, n, h => by simp at h
 | x :: r, hd, k, i, n, h => by
  rw [List.nodup_cons] at hd
  simp only [fwd]
  rw [look_cons]
  cases i with
  | zero => simp at h; simp [h]
  | succ i =>
   simp at h
   have hne : x ≠ n := by rintro rfl; exact hd.1 (List.mem_of_getElem? h)
   rw [if_neg hne, look_fwd_mem hd.2 (k + 1) i n h]
   congr 1; omega
theorem look_bwd : ∀ (l : List Nat) (k n m : Nat), look (bwd k l) n = some m → k ≤ n ∧ l[n - k]? = some m
 | [], k, n, m, h => by simp [bwd, look] at h
 | x :: r, k, n, m, h => by
  simp only [bwd] at h
  rw [look_cons] at h
  split at h
  ·rename_i e; subst e; simp at h; simp [h]
  ·obtain ⟨h1, h2⟩ := look_bwd r (k + 1) n m h
   exact ⟨by omega, by rw [show n - k = (n - (k + 1)) + 1 by omega]; simpa using h2⟩
theorem look_bwd_mem : ∀ {l : List Nat} {k i n : Nat}, l[i]? = some n → look (bwd k l) (k + i) = some n
 | [], _, i, n, h => by simp at h
 | x :: r, k, 0, n, h => by simp at h; simp [bwd, look_cons, h]
 | x :: r, k, i + 1, n, h => by
  simp only [bwd]
  rw [look_cons, if_neg (by omega), show k + (i + 1) = k + 1 + i by omega]
  exact look_bwd_mem (by simpa using h)
theorem Objs.get {S : St} : ∀ {ns : List Nat} {os : List SObj}, Objs S ns os → ns.length = os.length ∧ ∀ (i : Nat) n, ns[i]? = some n → ∃ o, os[i]? = some o ∧ S.obj n = some o
 | _, _, .nil => ⟨rfl, fun i n h => by simp at h⟩
 | _, _, .cons h1 h2 => by
  obtain ⟨k1, k2⟩ := h2.get
  refine ⟨by simp [k1], fun i n h => ?_⟩
  cases i with
  | zero => simp at h; subst h; exact ⟨_, rfl, h1⟩
  | succ i => simpa using k2 i n (by simpa using h)
theorem NoObjs.get {S : St} : ∀ {ns : List Nat}, NoObjs S ns → ∀ n ∈ ns, S.obj n = none
 | _, .nil, n, h => by simp at h
 | _, .cons h1 h2, n, h => by
  rcases List.mem_cons.1 h with rfl | h
  ·exact h1
  ·exact h2.get n h
theorem SConvs.get {S : St} {σ : List (Nat × Nat)} {B : List Nat} : ∀ {os os' : List SObj}, SConvs S σ B os os' → os.length = os'.length ∧ ∀ (i : Nat) o', os'[i]? = some o' → ∃ o, os[i]? = some o ∧ SConv S σ B o o'
 | _, _, .nil => ⟨rfl, fun i n h => by simp at h⟩
 | _, _, .cons h1 h2 => by
  obtain ⟨k1, k2⟩ := h2.get
  refine ⟨by simp [k1], fun i n h => ?_⟩
  cases i with
  | zero => simp at h; subst h; exact ⟨_, rfl, h1⟩
  | succ i => simpa using k2 i n (by simpa using h)
theorem look_zipO : ∀ {ns : List Nat} {os : List SObj}, ns.Nodup → ns.length = os.length → ∀ (n : Nat) (o : SObj), look (zipO ns os) n = some o → ∃ i : Nat, ns[i]? = some n ∧ os[i]? = some o
 | [], [], _, _, n, o, h => by simp [zipO, look] at h
 | [], _ :: _, _, hl, _, _, _ => by simp at hl
 | _ :: _, [], _, hl, _, _, _ => by simp at hl
 | x :: ns, y :: os, hd, hl, n, o, h => by
  rw [List.nodup_cons] at hd
  simp only [zipO] at h
  rw [look_cons] at h
  split at h
  ·rename_i e; subst e; simp at h; subst h; exact ⟨0, by simp, by simp⟩
  ·obtain ⟨i, h1, h2⟩ := look_zipO hd.2 (by simpa using hl) n o h
   exact ⟨i + 1, by simpa using h1, by simpa using h2⟩
theorem look_zipO_mem : ∀ {ns : List Nat} {os : List SObj}, ns.length = os.length → ∀ (n : Nat), n ∈ ns → ∃ o, look (zipO ns os) n = some o
 | [], _, _, n, h => by simp at h
 | _ :: _, [], hl, _, _ => by simp at hl
 | x :: ns, y :: os, hl, n, h => by
  simp only [zipO]
  rw [look_cons]
  by_cases e : x = n
  ·exact ⟨y, by simp [e]⟩
  ·obtain ⟨o, ho⟩ := look_zipO_mem (os := os) (by simpa using hl) n (by rcases List.mem_cons.1 h with h | h; exact absurd h.symm e; exact h)
   exact ⟨o, by rw [if_neg e]; exact ho⟩
theorem look_zipO_none {ns : List Nat} : ∀ {os : List SObj} {n : Nat}, n ∉ ns → look (zipO ns os) n = none := by
 induction ns with
 | nil => intro os n _; rfl
 | cons x ns ih =>
  intro os n h
  cases os with
  | nil => rfl
  | cons y os =>
   simp at h
   simp only [zipO]
   rw [look_cons, if_neg (fun e => h.1 e.symm)]
   exact ih h.2
section
variable {F F' : Nat → Prop} {w : World} {L L' : LMap}
theorem ro_rep_all : (∀ {L p x}, Rep w F L p x → roFree p = true → Rep w F' L p x) ∧ (∀ {L p x}, RepL w F L p x → roFreeL p = true → RepL w F' L p x) := by
 have c : ∀ {L p x}, Rep w F L p x → roFree p = true → Rep w F' L p x := fun {L p x} h => by
  refine @Rep.rec w F (fun L p x _ => roFree p = true → Rep w F' L p x) (fun L p x _ => roFreeL p = true → RepL w F' L p x) (fun _ _ _ _ => True) (fun _ _ _ _ _ => True) ?_ ?_ ?_ ?_ ?_ ?_ ?_ ?_ ?_ ?_ ?_ ?_ ?_ ?_ ?_ ?_ ?_ ?_ ?_ ?_ ?_ ?_ ?_ ?_ ?_ L p x h
  ·exact fun L x _ => .v L x
  ·exact fun _ ih hp => .agg (ih (by simpa [roFree] using hp))
  ·exact fun _ ih hp => .tup (ih (by simpa [roFree] using hp))
  ·intro L sz es b off n cap h1 h2 h3 _ hp
   simp [roFree] at hp
   subst hp
   exact .sl h1 h2 (.nil _ _ _)
  ·exact fun L sz _ => .slNil L sz
  ·exact fun L sz a _ => .slE L sz a
  ·exact fun _ _ _ _ _ _ hp => by simp [roFree] at hp
  ·exact fun L _ => .mpNil L
  ·exact fun _ _ _ _ _ _ hp => by simp [roFree] at hp
  ·exact fun _ _ _ hp => by simp [roFree] at hp
  ·exact fun h1 h2 h3 _ => .mref h1 h2 h3
  ·exact fun _ _ hp => by simp [roFree] at hp
  ·exact fun h1 h2 h3 _ => .ref h1 h2 h3
  ·exact fun h1 h2 h3 _ => .eref h1 h2 h3
  ·exact fun h1 h2 h3 _ => .osl h1 h2 h3
  ·exact fun _ _ i1 i2 hp => by simp [roFree] at hp; exact .clo (i1 hp.1) (i2 hp.2)
  ·exact fun _ ih hp => .ifc (ih (by simpa [roFree] using hp))
  ·exact fun _ _ _ hp => by simp [roFree] at hp
  ·exact fun L x _ => .dead L x
  ·exact fun L _ => .nil L
  ·exact fun _ _ i1 i2 hp => by simp [roFreeL] at hp; exact .cons (i1 hp.1) (i2 hp.2)
  ·exact fun _ _ => trivial
  ·exact fun _ _ _ _ _ _ => trivial
  ·exact fun _ _ _ => trivial
  ·exact fun _ _ _ _ _ => trivial
 refine ⟨c, fun {L p x} h => ?_⟩
 induction p generalizing x with
 | nil => cases h; exact fun _ => .nil _
 | cons d ds ih => cases h with | cons g1 g2 => exact fun hp => by simp [roFreeL] at hp; exact .cons (c g1 hp.1) (ih g2 hp.2)
def SObj.roFree : SObj → Bool
 | .box cs => roFreeL cs
 | .arr _ _ es => roFreeL (cellsOf es)
 | .gone => true
 | .arrc _ _ es _ => roFreeL (cellsOf es)
 | .map _ vs => roFreeL vs
 | .iter _ _ _ _ => false
theorem back_rep_all {σ : List (Nat × Nat)} (hσ : ∀ o o', look σ o = some o' → ∀ l, L o = some l → L' o' = some l) :
  (∀ {p q}, ConvP ⟨[], []⟩ σ [] p q → ∀ x, Rep w F L p x → ((∀ b, ¬ F b → ¬ F' b) ∨ roFree p = true) → Rep w F' L' q x) ∧ (∀ {p q}, ConvL ⟨[], []⟩ σ [] p q → ∀ x, RepL w F L p x → ((∀ b, ¬ F b → ¬ F' b) ∨ roFreeL p = true) → RepL w F' L' q x) := by
 have ro : ∀ {p : PV} {x : Value}, Rep w F L p x → ((∀ b, ¬ F b → ¬ F' b) ∨ roFree p = true) → Sym.plain p = true → Rep w F' L' p x := fun h hh hp => by
  rcases hh with hF | hr
  ·exact (h.plain hp L').mono (fun b s hx hn => ⟨hx, hF b hn⟩) (LExt.refl _)
  ·exact (ro_rep_all.1 h hr).plain hp L'
 have c : ∀ {p q}, ConvP ⟨[], []⟩ σ [] p q → ∀ x, Rep w F L p x → ((∀ b, ¬ F b → ¬ F' b) ∨ roFree p = true) → Rep w F' L' q x := fun {p q} h => by
  refine @ConvP.rec ⟨[], []⟩ σ [] (fun p q _ => ∀ x, Rep w F L p x → ((∀ b, ¬ F b → ¬ F' b) ∨ roFree p = true) → Rep w F' L' q x) (fun p q _ => ∀ x, RepL w F L p x → ((∀ b, ¬ F b → ¬ F' b) ∨ roFreeL p = true) → RepL w F' L' q x) ?_ ?_ ?_ ?_ ?_ ?_ ?_ ?_ ?_ ?_ ?_ ?_ ?_ ?_ ?_ ?_ ?_ ?_ ?_ ?_ ?_ ?_ ?_ ?_ p q h
  ·exact fun x hx hh => ro hx hh rfl
  ·exact fun _ ih x hx hh => by cases hx with | agg hx => exact .agg (ih _ hx (hh.imp id fun h => by simpa [roFree] using h))
  ·exact fun _ ih x hx hh => by cases hx with | tup hx => exact .tup (ih _ hx (hh.imp id fun h => by simpa [roFree] using h))
  ·exact fun x hx hh => ro hx hh rfl
  ·exact fun x hx hh => ro hx hh rfl
  ·exact fun hl x hx _ => by cases hx with | ref g1 g2 g3 => exact .ref (hσ _ _ hl _ g1) g2 g3
  ·exact fun hl x hx _ => by cases hx with | eref g1 g2 g3 => exact .eref (hσ _ _ hl _ g1) g2 g3
  ·exact fun hl x hx _ => by cases hx with | osl g1 g2 g3 => exact .osl (hσ _ _ hl _ g1) g2 g3
  ·exact fun _ _ i1 i2 x hx hh => by cases hx with | clo g1 g2 => exact .clo (i1 _ g1 (hh.imp id fun h => by simp [roFree] at h; exact h.1)) (i2 _ g2 (hh.imp id fun h => by simp [roFree] at h; exact h.2))
  ·exact fun _ ih x hx hh => by cases hx with | ifc g1 => exact .ifc (ih _ g1 (hh.imp id fun h => by simpa [roFree] using h))
  ·exact fun hl x hx _ => by cases hx with | mref g1 g2 g3 => exact .mref (hσ _ _ hl _ g1) g2 g3
  ·exact fun h1 => by simp at h1
  ·exact fun h1 => by simp at h1
  ·exact fun h1 => by simp at h1
  ·exact fun x _ _ => .dead _ _
  ·exact fun x hx _ => by have := hx.inv_v; subst this; exact .slNil _ _
  ·exact fun x hx _ => by cases hx with | slNil => exact .v _ _
  ·exact fun x hx hh => ro hx hh rfl
  ·exact fun h1 => by simp at h1
  ·exact fun x hx _ => by have := hx.inv_v; subst this; exact .mpNil _
  ·exact fun x hx hh => ro hx hh rfl
  ·exact fun x hx hh => ro hx hh rfl
  ·exact fun x hx _ => by cases hx; exact .nil _
  ·exact fun _ _ i1 i2 x hx hh => by cases hx with | cons g1 g2 => exact .cons (i1 _ g1 (hh.imp id fun h => by simp [roFreeL] at h; exact h.1)) (i2 _ g2 (hh.imp id fun h => by simp [roFreeL] at h; exact h.2))
 refine ⟨c, fun {p q} h => ?_⟩
 induction q generalizing p with
 | nil => cases h; exact fun x hx _ => by cases hx; exact .nil _
 | cons d ds ih => cases h with | cons g1 g2 => exact fun x hx hh => by cases hx with | cons k1 k2 => exact .cons (c g1 _ k1 (hh.imp id fun h => by simp [roFreeL] at h; exact h.1)) (ih g2 _ k2 (hh.imp id fun h => by simp [roFreeL] at h; exact h.2))
end
end Go.Sym
