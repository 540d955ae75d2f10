/- The abstract values of the logic 'Sym' and what it means that a value of the model represents one; nothing here speaks of one program. -/
import Derived.Orders
import Derived.Below
namespace Go.Sym
open Go.RowKit

/-- A value as the logic sees it. -/
inductive PV where
  | v (x : Value)
  | agg (cs : List PV)
  | tup (vs : List PV)
  | sl (nl : Bool) (sz : Nat) (es : List PV)
  | rp (cs : List PV)
  | ref (o off : Nat)
  | eref (o i off n : Nat)
  | osl (o off len n : Nat)
  | clo (fn : Fn) (first caps : List PV)
  | ifc (t : TypeId) (x : PV)
  | opt (b : Bool) (x : PV)
  | dead

def PV.cells : PV → List PV
  | .agg cs => cs
  | x => [x]

/-- Where an object of the logic lies in memory. -/
inductive Loc where
  | box (b off n : Nat)
  | arr (base : Option (Nat × Nat)) (n cap sz : Nat)
  | gone

def Loc.blk : Loc → Option Nat
  | .box b _ _ => some b
  | .arr (some (b, _)) _ _ _ => some b
  | _ => none

def Loc.refAt : Loc → Nat → Value → Prop
  | .box b o _, off, x => x = .pointer (some ⟨b, o + off, none⟩)
  | _, _, _ => True

def sliceAt (base : Option (Nat × Nat)) (n cap sz off len : Nat) (x : Value) : Prop :=
  off + len ≤ n ∧ match base with
    | none => x = .slice none 0 0
    | some (b, o) => ∃ q c, x = .slice (some ⟨b, q, none⟩) len c ∧ len ≤ c ∧ (0 < len → q = o + off * sz) ∧ (off = 0 → q = o) ∧ c = cap - off

def Loc.oslAt : Loc → Nat → Nat → Nat → Value → Prop
  | .arr base n cap sz, off, len, k, x => k ≤ n ∧ (k = n → sliceAt base n cap sz off len x)
  | _, _, _, _, _ => True

def Loc.erefAt : Loc → Nat → Nat → Nat → Value → Prop
  | .arr (some (b, o)) n _ sz, i, off, k, x => k ≤ n ∧ (k = n → i < n ∧ x = .pointer (some ⟨b, o + i * sz + off, none⟩))
  | .arr none n _ _, _, _, k, _ => k < n
  | _, _, _, _, _ => True

abbrev LMap := Nat → Option Loc
def noL : LMap := fun _ => none

mutual
inductive Rep (w : World) (F : Nat → Prop) : LMap → PV → Value → Prop
  | v (L : LMap) (x : Value) : Rep w F L (.v x) x
  | agg {L : LMap} {cs : List PV} {vs : List Value} : RepL w F L cs vs → Rep w F L (.agg cs) (.agg vs.toArray)
  | tup {L : LMap} {cs : List PV} {vs : List Value} : RepL w F L cs vs → Rep w F L (.tup cs) (.tuple vs.toArray)
  | sl {L : LMap} {sz : Nat} {es : List PV} {b off n cap : Nat} : n = es.length → n ≤ cap → Rows w F sz es b off →
      Rep w F L (.sl false sz es) (.slice (some ⟨b, off, none⟩) n cap)
  | slNil (L : LMap) (sz : Nat) : Rep w F L (.sl true sz []) (.slice none 0 0)
  | slE (L : LMap) (sz : Nat) (a : Addr) : Rep w F L (.sl false sz []) (.slice (some a) 0 0)
  | rp {L : LMap} {cs : List PV} {b off : Nat} : Row w F cs b off → Rep w F L (.rp cs) (.pointer (some ⟨b, off, none⟩))
  | ref {L : LMap} {o off : Nat} {l : Loc} {x : Value} : L o = some l → l.refAt off x → (∃ b, x = .pointer b) → Rep w F L (.ref o off) x
  | eref {L : LMap} {o i off n : Nat} {l : Loc} {x : Value} : L o = some l → l.erefAt i off n x → (∃ b, x = .pointer b) → Rep w F L (.eref o i off n) x
  | osl {L : LMap} {o off len n : Nat} {l : Loc} {x : Value} : L o = some l → l.oslAt off len n x → (∃ b m c, x = .slice b m c) → Rep w F L (.osl o off len n) x
  | clo {L : LMap} {fn : Fn} {f c : List PV} {fs cs : List Value} : RepL w F L f fs → RepL w F L c cs → Rep w F L (.clo fn f c) (.func fn fs.toArray cs.toArray)
  | ifc {L : LMap} {t : TypeId} {p : PV} {x : Value} : Rep w F L p x → Rep w F L (.ifc t p) (.iface t x)
  | opt {L : LMap} {b : Bool} {p : PV} {x : Value} : (b = true → Rep w F L p x) → (b = false → x = undef) → Rep w F L (.opt b p) x
  | dead (L : LMap) (x : Value) : Rep w F L .dead x
inductive RepL (w : World) (F : Nat → Prop) : LMap → List PV → List Value → Prop
  | nil (L : LMap) : RepL w F L [] []
  | cons {L : LMap} {c : PV} {cs : List PV} {x : Value} {xs : List Value} : Rep w F L c x → RepL w F L cs xs → RepL w F L (c :: cs) (x :: xs)
inductive Row (w : World) (F : Nat → Prop) : List PV → Nat → Nat → Prop
  | nil (b off : Nat) : Row w F [] b off
  | cons {c : PV} {cs : List PV} {x : Value} {b off : Nat} : w.cell? ⟨b, off, none⟩ = some x → ¬ F b → Rep w F noL c x → Row w F cs b (off + 1) →
      Row w F (c :: cs) b off
inductive Rows (w : World) (F : Nat → Prop) : Nat → List PV → Nat → Nat → Prop
  | nil (sz b off : Nat) : Rows w F sz [] b off
  | cons {sz : Nat} {e : PV} {es : List PV} {b off : Nat} : e.cells.length = sz → Row w F e.cells b off → Rows w F sz es b (off + sz) →
      Rows w F sz (e :: es) b off
end

/-- What was readable and not written stays so. -/
def Ext (w : World) (F : Nat → Prop) (w' : World) (F' : Nat → Prop) : Prop :=
  ∀ b off x, w.cell? ⟨b, off, none⟩ = some x → ¬ F b → w'.cell? ⟨b, off, none⟩ = some x ∧ ¬ F' b

/-- A place may turn into a later one of the same object. -/
def Loc.le (l l' : Loc) : Prop := (∀ off x, l.refAt off x → l'.refAt off x) ∧ (∀ off len n x, l.oslAt off len n x → l'.oslAt off len n x) ∧ (∀ i off n x, l.erefAt i off n x → l'.erefAt i off n x)
theorem Loc.le_refl (l : Loc) : l.le l := ⟨fun _ _ h => h, fun _ _ _ _ h => h, fun _ _ _ _ h => h⟩

def LExt (L L' : LMap) : Prop := ∀ o l, L o = some l → ∃ l', L' o = some l' ∧ l.le l'
theorem LExt.trans {a b c : LMap} (h : LExt a b) (k : LExt b c) : LExt a c := fun o l hl => by
  obtain ⟨l1, h1, h2⟩ := h o l hl
  obtain ⟨l2, k1, k2⟩ := k o l1 h1
  exact ⟨l2, k1, fun off x hx => k2.1 off x (h2.1 off x hx), fun off len n x hx => k2.2.1 off len n x (h2.2.1 off len n x hx), fun i off n x hx => k2.2.2 i off n x (h2.2.2 i off n x hx)⟩
theorem LExt.refl (L : LMap) : LExt L L := fun _ l h => ⟨l, h, l.le_refl⟩

theorem Ext.refl (w : World) (F : Nat → Prop) : Ext w F w F := fun _ _ _ h hf => ⟨h, hf⟩

section
variable {w w' : World} {F F' : Nat → Prop}

theorem rep_mono_all (he : Ext w F w' F') :
    (∀ {L p x}, Rep w F L p x → ∀ L', LExt L L' → Rep w' F' L' p x) ∧
    (∀ {L p x}, RepL w F L p x → ∀ L', LExt L L' → RepL w' F' L' p x) ∧
    (∀ {p b o}, Row w F p b o → Row w' F' p b o) ∧
    (∀ {n p b o}, Rows w F n p b o → Rows w' F' n p b o) := by
  have m1 := @Rep.rec w F (fun L p x _ => ∀ L', LExt L L' → Rep w' F' L' p x) (fun L p x _ => ∀ L', LExt L L' → RepL w' F' L' p x) (fun p b o _ => Row w' F' p b o) (fun n p b o _ => Rows w' F' n p b o)
  have m2 := @RepL.rec w F (fun L p x _ => ∀ L', LExt L L' → Rep w' F' L' p x) (fun L p x _ => ∀ L', LExt L L' → RepL w' F' L' p x) (fun p b o _ => Row w' F' p b o) (fun n p b o _ => Rows w' F' n p b o)
  have m3 := @Row.rec w F (fun L p x _ => ∀ L', LExt L L' → Rep w' F' L' p x) (fun L p x _ => ∀ L', LExt L L' → RepL w' F' L' p x) (fun p b o _ => Row w' F' p b o) (fun n p b o _ => Rows w' F' n p b o)
  have m4 := @Rows.rec w F (fun L p x _ => ∀ L', LExt L L' → Rep w' F' L' p x) (fun L p x _ => ∀ L', LExt L L' → RepL w' F' L' p x) (fun p b o _ => Row w' F' p b o) (fun n p b o _ => Rows w' F' n p b o)
  have c1 : ∀ (L : LMap) (x : Value), ∀ L', LExt L L' → Rep w' F' L' (.v x) x := fun _ x L' _ => .v L' x
  have c2 : ∀ {L : LMap} {cs : List PV} {vs : List Value} (_ : RepL w F L cs vs), (∀ L', LExt L L' → RepL w' F' L' cs vs) → ∀ L', LExt L L' → Rep w' F' L' (.agg cs) (.agg vs.toArray) := fun _ ih L' h => .agg (ih L' h)
  have c3 : ∀ {L : LMap} {cs : List PV} {vs : List Value} (_ : RepL w F L cs vs), (∀ L', LExt L L' → RepL w' F' L' cs vs) → ∀ L', LExt L L' → Rep w' F' L' (.tup cs) (.tuple vs.toArray) := fun _ ih L' h => .tup (ih L' h)
  have c4 : ∀ {L : LMap} {sz : Nat} {es : List PV} {b off n cap : Nat} (_ : n = es.length) (_ : n ≤ cap) (_ : Rows w F sz es b off), Rows w' F' sz es b off →
      ∀ L', LExt L L' → Rep w' F' L' (.sl false sz es) (.slice (some ⟨b, off, none⟩) n cap) := fun h1 h2 _ ih L' _ => .sl h1 h2 ih
  have c4' : ∀ (L : LMap) (sz : Nat), ∀ L', LExt L L' → Rep w' F' L' (.sl true sz []) (.slice none 0 0) := fun _ sz L' _ => .slNil L' sz
  have c4e : ∀ (L : LMap) (sz : Nat) (a : Addr), ∀ L', LExt L L' → Rep w' F' L' (.sl false sz []) (.slice (some a) 0 0) := fun _ sz a L' _ => .slE L' sz a
  have c5 : ∀ {L : LMap} {cs : List PV} {b off : Nat} (_ : Row w F cs b off), Row w' F' cs b off → ∀ L', LExt L L' → Rep w' F' L' (.rp cs) (.pointer (some ⟨b, off, none⟩)) := fun _ ih L' _ => .rp ih
  have c6 : ∀ {L : LMap} {o off : Nat} {l : Loc} {x : Value} (_ : L o = some l) (_ : l.refAt off x) (_ : ∃ b, x = .pointer b), ∀ L', LExt L L' → Rep w' F' L' (.ref o off) x := by
    intro L o off l x h1 h2 hf L' h
    obtain ⟨l', h3, h4⟩ := h _ _ h1
    exact .ref h3 (h4.1 _ _ h2) hf
  have c7 : ∀ {L : LMap} {o off len n : Nat} {l : Loc} {x : Value} (_ : L o = some l) (_ : l.oslAt off len n x) (_ : ∃ b m c, x = .slice b m c), ∀ L', LExt L L' → Rep w' F' L' (.osl o off len n) x := by
    intro L o off len n l x h1 h2 hf L' h
    obtain ⟨l', h3, h4⟩ := h _ _ h1
    exact .osl h3 (h4.2.1 _ _ _ _ h2) hf
  have c7' : ∀ {L : LMap} {o i off n : Nat} {l : Loc} {x : Value} (_ : L o = some l) (_ : l.erefAt i off n x) (_ : ∃ b, x = .pointer b), ∀ L', LExt L L' → Rep w' F' L' (.eref o i off n) x := by
    intro L o i off n l x h1 h2 hf L' h
    obtain ⟨l', h3, h4⟩ := h _ _ h1
    exact .eref h3 (h4.2.2 _ _ _ _ h2) hf
  have c8 : ∀ {L : LMap} {fn : Fn} {f c : List PV} {fs cs : List Value} (_ : RepL w F L f fs) (_ : RepL w F L c cs), (∀ L', LExt L L' → RepL w' F' L' f fs) → (∀ L', LExt L L' → RepL w' F' L' c cs) →
      ∀ L', LExt L L' → Rep w' F' L' (.clo fn f c) (.func fn fs.toArray cs.toArray) := fun _ _ i1 i2 L' h => .clo (i1 L' h) (i2 L' h)
  have c9 : ∀ {L : LMap} {t : TypeId} {p : PV} {x : Value} (_ : Rep w F L p x), (∀ L', LExt L L' → Rep w' F' L' p x) → ∀ L', LExt L L' → Rep w' F' L' (.ifc t p) (.iface t x) := fun _ ih L' h => .ifc (ih L' h)
  have c10 : ∀ {L : LMap} {b : Bool} {p : PV} {x : Value} (_ : b = true → Rep w F L p x) (_ : b = false → x = undef), (b = true → ∀ L', LExt L L' → Rep w' F' L' p x) →
      ∀ L', LExt L L' → Rep w' F' L' (.opt b p) x := fun _ hu ih L' h => .opt (fun hb => ih hb L' h) hu
  have c11 : ∀ (L : LMap) (x : Value), ∀ L', LExt L L' → Rep w' F' L' .dead x := fun _ x L' _ => .dead L' x
  have d1 : ∀ L : LMap, ∀ L', LExt L L' → RepL w' F' L' [] [] := fun _ L' _ => .nil L'
  have d2 : ∀ {L : LMap} {c : PV} {cs : List PV} {x : Value} {xs : List Value} (_ : Rep w F L c x) (_ : RepL w F L cs xs), (∀ L', LExt L L' → Rep w' F' L' c x) → (∀ L', LExt L L' → RepL w' F' L' cs xs) →
      ∀ L', LExt L L' → RepL w' F' L' (c :: cs) (x :: xs) := fun _ _ i1 i2 L' h => .cons (i1 L' h) (i2 L' h)
  have e1 : ∀ b off : Nat, Row w' F' [] b off := fun b off => .nil b off
  have e2 : ∀ {c : PV} {cs : List PV} {x : Value} {b off : Nat} (_ : w.cell? ⟨b, off, none⟩ = some x) (_ : ¬ F b) (_ : Rep w F noL c x) (_ : Row w F cs b (off + 1)), (∀ L', LExt noL L' → Rep w' F' L' c x) → Row w' F' cs b (off + 1) →
      Row w' F' (c :: cs) b off := by
    intro c cs x b off h1 h2 _ _ i1 i2
    obtain ⟨g1, g2⟩ := he _ _ _ h1 h2
    exact .cons g1 g2 (i1 _ (LExt.refl _)) i2
  have f1 : ∀ sz b off : Nat, Rows w' F' sz [] b off := fun sz b off => .nil sz b off
  have f2 : ∀ {sz : Nat} {e : PV} {es : List PV} {b off : Nat} (_ : e.cells.length = sz) (_ : Row w F e.cells b off) (_ : Rows w F sz es b (off + sz)), Row w' F' e.cells b off → Rows w' F' sz es b (off + sz) →
      Rows w' F' sz (e :: es) b off := fun h _ _ i1 i2 => .cons h i1 i2
  exact ⟨fun h => m1 c1 c2 c3 c4 c4' c4e c5 c6 c7' c7 c8 c9 c10 c11 d1 d2 e1 e2 f1 f2 h, fun h => m2 c1 c2 c3 c4 c4' c4e c5 c6 c7' c7 c8 c9 c10 c11 d1 d2 e1 e2 f1 f2 h,
    fun h => m3 c1 c2 c3 c4 c4' c4e c5 c6 c7' c7 c8 c9 c10 c11 d1 d2 e1 e2 f1 f2 h, fun h => m4 c1 c2 c3 c4 c4' c4e c5 c6 c7' c7 c8 c9 c10 c11 d1 d2 e1 e2 f1 f2 h⟩

theorem Rep.mono {L L' : LMap} {p : PV} {x : Value} (h : Rep w F L p x) (he : Ext w F w' F') (hl : LExt L L') : Rep w' F' L' p x := (rep_mono_all he).1 h L' hl
theorem RepL.mono {L L' : LMap} {p : List PV} {x : List Value} (h : RepL w F L p x) (he : Ext w F w' F') (hl : LExt L L') : RepL w' F' L' p x := (rep_mono_all he).2.1 h L' hl
theorem Row.mono {p : List PV} {b o : Nat} (h : Row w F p b o) (he : Ext w F w' F') : Row w' F' p b o := (rep_mono_all he).2.2.1 h
theorem Rows.mono {n : Nat} {p : List PV} {b o : Nat} (h : Rows w F n p b o) (he : Ext w F w' F') : Rows w' F' n p b o := (rep_mono_all he).2.2.2 h
end

end Go.Sym
