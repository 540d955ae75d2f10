/- A part of the proof: SymA, SymB. -/
import Derived.Orders
import Derived.Below
set_option linter.unusedVariables false
set_option linter.unusedSimpArgs false
namespace Go.Sym
theorem ln : (∀ {α β : Type} (f : α → β) (l : List α), (l.map f).length = l.length) ∧ (∀ {α : Type} (a b : List α), (a ++ b).length = a.length + b.length) ∧ (∀ {α : Type} (a : α) (l : List α), (a :: l).length = l.length + 1) ∧ (∀ {α : Type}, ([] : List α).length = 0) ∧ (∀ n : Nat, (List.range n).length = n) ∧ (∀ {α : Type} (n : Nat) (a : α), (List.replicate n a).length = n) ∧ (∀ {α : Type} (i : Nat) (l : List α), (l.take i).length = min i l.length) ∧ (∀ {α : Type} (i : Nat) (l : List α), (l.drop i).length = l.length - i) ∧ (∀ n : Nat, (n : Int).toNat = n) :=
  ⟨fun _ _ => List.length_map .., fun _ _ => List.length_append, fun _ _ => List.length_cons, List.length_nil, fun _ => List.length_range, fun _ _ => List.length_replicate, fun _ _ => List.length_take, fun _ _ => List.length_drop, Int.toNat_natCast⟩
end Go.Sym
namespace Go.Sym
open Go.RowKit
inductive PV where
 | v (x : Value)
 | agg (cs : List PV)
 | tup (vs : List PV)
 | sl (nl : Bool) (sz : Nat) (es : List PV)
 | rp (cs : List PV)
 | ref (o off : Nat)
 | eref (o i off n : Nat)
 | osl (o off len n : Nat)
 | clo (fn : Fn) (first caps : List PV)
 | ifc (t : TypeId) (x : PV)
 | opt (b : Bool) (x : PV)
 | dead
 | mref (o : Nat)
 | mp (nl : Bool) (ks : List Value) (vs : List PV)
 | it (g : Nat) (ks : List Value)
 | slf (sz : Nat) (es : List PV)
def PV.cells : PV → List PV
 | .agg cs => cs
 | x => [x]
inductive Loc where
 | box (b off n : Nat)
 | arr (base : Option (Nat × Nat)) (n cap sz : Nat)
 | gone
 | map (b : Nat)
 | iter (b : Nat)
def Loc.blk : Loc → Option Nat
 | .box b _ _ => some b
 | .arr (some (b, _)) _ _ _ => some b
 | .map b => some b
 | .iter b => some b
 | _ => none
def Loc.refAt : Loc → Nat → Value → Prop
 | .box b o _, off, x => x = .pointer (some ⟨b, o + off, none⟩)
 | .map b, _, x => x = .map (some b)
 | .iter b, off, x => x = .pointer (some ⟨b, off, none⟩)
 | _, _, _ => True
def sliceAt (base : Option (Nat × Nat)) (n cap sz off len : Nat) (x : Value) : Prop :=
 off + len ≤ n ∧ match base with
  | none => x = .slice none 0 0
  | some (b, o) => ∃ q c, x = .slice (some ⟨b, q, none⟩) len c ∧ len ≤ c ∧ (0 < len → q = o + off * sz) ∧ (off = 0 → q = o) ∧ c = cap - off
def Loc.oslAt : Loc → Nat → Nat → Nat → Value → Prop
 | .arr base n cap sz, off, len, k, x => k ≤ n ∧ (k = n → sliceAt base n cap sz off len x)
 | _, _, _, _, _ => True
def Loc.erefAt : Loc → Nat → Nat → Nat → Value → Prop
 | .arr (some (b, o)) n _ sz, i, off, k, x => k ≤ n ∧ (k = n → i < n ∧ x = .pointer (some ⟨b, o + i * sz + off, none⟩))
 | .arr none n _ _, _, _, k, _ => k < n
 | _, _, _, _, _ => True
abbrev LMap := Nat → Option Loc
def noL : LMap := fun _ => none
mutual
inductive Rep (w : World) (F : Nat → Prop) : LMap → PV → Value → Prop
 | v (L : LMap) (x : Value) : Rep w F L (.v x) x
 | agg {L : LMap} {cs : List PV} {vs : List Value} : RepL w F L cs vs → Rep w F L (.agg cs) (.agg vs.toArray)
 | tup {L : LMap} {cs : List PV} {vs : List Value} : RepL w F L cs vs → Rep w F L (.tup cs) (.tuple vs.toArray)
 | sl {L : LMap} {sz : Nat} {es : List PV} {b off n cap : Nat} : n = es.length → n ≤ cap → Rows w F sz es b off →
   Rep w F L (.sl false sz es) (.slice (some ⟨b, off, none⟩) n cap)
 | slNil (L : LMap) (sz : Nat) : Rep w F L (.sl true sz []) (.slice none 0 0)
 | slE (L : LMap) (sz : Nat) (a : Addr) : Rep w F L (.sl false sz []) (.slice (some a) 0 0)
 | mp {L : LMap} {ks : List Value} {vs : List PV} {b clock : Nat} {es : Array MapEntry} : w.heap[b]? = some (.map es clock) → ¬ F b → es.toList.map (·.key) = ks → RepL w F noL vs (es.toList.map (·.val)) → clock = es.size ∧ es.toList.map (·.born) = List.range es.size → Rep w F L (.mp false ks vs) (.map (some b))
 | mpNil (L : LMap) : Rep w F L (.mp true [] []) (.map none)
 | it {L : LMap} {g : Nat} {ks : List Value} {c b clock : Nat} {es : Array MapEntry} : w.cell? ⟨c, 0, none⟩ = some (.map (some b)) → ¬ F c → w.heap[b]? = some (.map es clock) → ¬ F b → es.toList.map (·.key) = ks → clock = es.size ∧ es.toList.map (·.born) = List.range es.size → Rep w F L (.it g ks) (.func (.func g) #[] #[.pointer (some ⟨c, 0, none⟩)])
 | slf {L : LMap} {sz : Nat} {es : List PV} {b off n : Nat} : n = es.length → Rows w F sz es b off → Rep w F L (.slf sz es) (.slice (some ⟨b, off, none⟩) n n)
 | mref {L : LMap} {o : Nat} {l : Loc} {x : Value} : L o = some l → l.refAt 0 x → (∃ b, x = .map b) → Rep w F L (.mref o) x
 | rp {L : LMap} {cs : List PV} {b off : Nat} : Row w F cs b off → Rep w F L (.rp cs) (.pointer (some ⟨b, off, none⟩))
 | ref {L : LMap} {o off : Nat} {l : Loc} {x : Value} : L o = some l → l.refAt off x → (∃ b, x = .pointer b) → Rep w F L (.ref o off) x
 | eref {L : LMap} {o i off n : Nat} {l : Loc} {x : Value} : L o = some l → l.erefAt i off n x → (∃ b, x = .pointer b) → Rep w F L (.eref o i off n) x
 | osl {L : LMap} {o off len n : Nat} {l : Loc} {x : Value} : L o = some l → l.oslAt off len n x → (∃ b m c, x = .slice b m c) → Rep w F L (.osl o off len n) x
 | clo {L : LMap} {fn : Fn} {f c : List PV} {fs cs : List Value} : RepL w F L f fs → RepL w F L c cs → Rep w F L (.clo fn f c) (.func fn fs.toArray cs.toArray)
 | ifc {L : LMap} {t : TypeId} {p : PV} {x : Value} : Rep w F L p x → Rep w F L (.ifc t p) (.iface t x)
 | opt {L : LMap} {b : Bool} {p : PV} {x : Value} : (b = true → Rep w F L p x) → (b = false → x = undef) → Rep w F L (.opt b p) x
 | dead (L : LMap) (x : Value) : Rep w F L .dead x
inductive RepL (w : World) (F : Nat → Prop) : LMap → List PV → List Value → Prop
 | nil (L : LMap) : RepL w F L [] []
 | cons {L : LMap} {c : PV} {cs : List PV} {x : Value} {xs : List Value} : Rep w F L c x → RepL w F L cs xs → RepL w F L (c :: cs) (x :: xs)
inductive Row (w : World) (F : Nat → Prop) : List PV → Nat → Nat → Prop
 | nil (b off : Nat) : Row w F [] b off
 | cons {c : PV} {cs : List PV} {x : Value} {b off : Nat} : w.cell? ⟨b, off, none⟩ = some x → ¬ F b → Rep w F noL c x → Row w F cs b (off + 1) →
   Row w F (c :: cs) b off
inductive Rows (w : World) (F : Nat → Prop) : Nat → List PV → Nat → Nat → Prop
 | nil (sz b off : Nat) : Rows w F sz [] b off
 | cons {sz : Nat} {e : PV} {es : List PV} {b off : Nat} : e.cells.length = sz → Row w F e.cells b off → Rows w F sz es b (off + sz) →
   Rows w F sz (e :: es) b off
end
inductive See where
 | cell (off : Nat) (x : Value)
 | map (es : Array MapEntry) (clock : Nat)
def sees (w : World) (b : Nat) : See → Prop
 | .cell off x => w.cell? ⟨b, off, none⟩ = some x
 | .map es clock => w.heap[b]? = some (.map es clock)
def Ext (w : World) (F : Nat → Prop) (w' : World) (F' : Nat → Prop) : Prop :=
 ∀ b s, sees w b s → ¬ F b → sees w' b s ∧ ¬ F' b
theorem sees_block {w w' : World} {b : Nat} {s : See} (h : w'.heap[b]? = w.heap[b]?) (hs : sees w b s) : sees w' b s := by
 cases s with
 | cell off x => exact (World.cell?_of_block (w := w) (a := ⟨b, off, none⟩) h).trans hs
 | map es clock => exact h.trans hs
theorem sees_lt {w : World} {b : Nat} {s : See} (hs : sees w b s) : b < w.heap.size := by
 cases s with
 | cell off x => exact World.block_lt_of_cell? w _ hs
 | map es clock => exact (Array.getElem?_eq_some_iff.1 hs).1
theorem sees_drew {w : World} {b : Nat} {s : See} (hs : sees w b s) : sees w.drew b s := by cases s <;> exact hs
def Loc.le (l l' : Loc) : Prop := (∀ off x, l.refAt off x → l'.refAt off x) ∧ (∀ off len n x, l.oslAt off len n x → l'.oslAt off len n x) ∧ (∀ i off n x, l.erefAt i off n x → l'.erefAt i off n x)
theorem Loc.le_refl (l : Loc) : l.le l := ⟨fun _ _ h => h, fun _ _ _ _ h => h, fun _ _ _ _ h => h⟩
def LExt (L L' : LMap) : Prop := ∀ o l, L o = some l → ∃ l', L' o = some l' ∧ l.le l'
theorem LExt.trans {a b c : LMap} (h : LExt a b) (k : LExt b c) : LExt a c := fun o l hl => by
 obtain ⟨l1, h1, h2⟩ := h o l hl
 obtain ⟨l2, k1, k2⟩ := k o l1 h1
 exact ⟨l2, k1, fun off x hx => k2.1 off x (h2.1 off x hx), fun off len n x hx => k2.2.1 off len n x (h2.2.1 off len n x hx), fun i off n x hx => k2.2.2 i off n x (h2.2.2 i off n x hx)⟩
theorem LExt.refl (L : LMap) : LExt L L := fun _ l h => ⟨l, h, l.le_refl⟩
theorem Ext.refl (w : World) (F : Nat → Prop) : Ext w F w F := fun _ _ h hf => ⟨h, hf⟩
section
variable {w w' : World} {F F' : Nat → Prop}
theorem rep_mono_all (he : Ext w F w' F') :
  (∀ {L p x}, Rep w F L p x → ∀ L', LExt L L' → Rep w' F' L' p x) ∧
  (∀ {L p x}, RepL w F L p x → ∀ L', LExt L L' → RepL w' F' L' p x) ∧
  (∀ {p b o}, Row w F p b o → Row w' F' p b o) ∧
  (∀ {n p b o}, Rows w F n p b o → Rows w' F' n p b o) := by
 have m1 := @Rep.rec w F (fun L p x _ => ∀ L', LExt L L' → Rep w' F' L' p x) (fun L p x _ => ∀ L', LExt L L' → RepL w' F' L' p x) (fun p b o _ => Row w' F' p b o) (fun n p b o _ => Rows w' F' n p b o)
 have m2 := @RepL.rec w F (fun L p x _ => ∀ L', LExt L L' → Rep w' F' L' p x) (fun L p x _ => ∀ L', LExt L L' → RepL w' F' L' p x) (fun p b o _ => Row w' F' p b o) (fun n p b o _ => Rows w' F' n p b o)
 have m3 := @Row.rec w F (fun L p x _ => ∀ L', LExt L L' → Rep w' F' L' p x) (fun L p x _ => ∀ L', LExt L L' → RepL w' F' L' p x) (fun p b o _ => Row w' F' p b o) (fun n p b o _ => Rows w' F' n p b o)
 have m4 := @Rows.rec w F (fun L p x _ => ∀ L', LExt L L' → Rep w' F' L' p x) (fun L p x _ => ∀ L', LExt L L' → RepL w' F' L' p x) (fun p b o _ => Row w' F' p b o) (fun n p b o _ => Rows w' F' n p b o)
 have c1 : ∀ (L : LMap) (x : Value), ∀ L', LExt L L' → Rep w' F' L' (.v x) x := fun _ x L' _ => .v L' x
 have c2 : ∀ {L : LMap} {cs : List PV} {vs : List Value} (_ : RepL w F L cs vs), (∀ L', LExt L L' → RepL w' F' L' cs vs) → ∀ L', LExt L L' → Rep w' F' L' (.agg cs) (.agg vs.toArray) := fun _ ih L' h => .agg (ih L' h)
 have c3 : ∀ {L : LMap} {cs : List PV} {vs : List Value} (_ : RepL w F L cs vs), (∀ L', LExt L L' → RepL w' F' L' cs vs) → ∀ L', LExt L L' → Rep w' F' L' (.tup cs) (.tuple vs.toArray) := fun _ ih L' h => .tup (ih L' h)
 have c4 : ∀ {L : LMap} {sz : Nat} {es : List PV} {b off n cap : Nat} (_ : n = es.length) (_ : n ≤ cap) (_ : Rows w F sz es b off), Rows w' F' sz es b off →
   ∀ L', LExt L L' → Rep w' F' L' (.sl false sz es) (.slice (some ⟨b, off, none⟩) n cap) := fun h1 h2 _ ih L' _ => .sl h1 h2 ih
 have c4' : ∀ (L : LMap) (sz : Nat), ∀ L', LExt L L' → Rep w' F' L' (.sl true sz []) (.slice none 0 0) := fun _ sz L' _ => .slNil L' sz
 have c4e : ∀ (L : LMap) (sz : Nat) (a : Addr), ∀ L', LExt L L' → Rep w' F' L' (.sl false sz []) (.slice (some a) 0 0) := fun _ sz a L' _ => .slE L' sz a
 have c4m : ∀ {L : LMap} {ks : List Value} {vs : List PV} {b clock : Nat} {es : Array MapEntry} (_ : w.heap[b]? = some (.map es clock)) (_ : ¬ F b) (_ : es.toList.map (·.key) = ks) (_ : RepL w F noL vs (es.toList.map (·.val))) (_ : clock = es.size ∧ es.toList.map (·.born) = List.range es.size),
   (∀ L', LExt noL L' → RepL w' F' L' vs (es.toList.map (·.val))) → ∀ L', LExt L L' → Rep w' F' L' (.mp false ks vs) (.map (some b)) := by
  intro L ks vs b clock es h1 h2 h3 _ h5 ih L' _
  obtain ⟨g1, g2⟩ := he _ (.map es clock) h1 h2
  exact .mp g1 g2 h3 (ih _ (LExt.refl _)) h5
 have c4n : ∀ L : LMap, ∀ L', LExt L L' → Rep w' F' L' (.mp true [] []) (.map none) := fun _ L' _ => .mpNil L'
 have c4i : ∀ {L : LMap} {g : Nat} {ks : List Value} {c b clock : Nat} {es : Array MapEntry} (_ : w.cell? ⟨c, 0, none⟩ = some (.map (some b))) (_ : ¬ F c) (_ : w.heap[b]? = some (.map es clock)) (_ : ¬ F b) (_ : es.toList.map (·.key) = ks) (_ : clock = es.size ∧ es.toList.map (·.born) = List.range es.size), ∀ L', LExt L L' → Rep w' F' L' (.it g ks) (.func (.func g) #[] #[.pointer (some ⟨c, 0, none⟩)]) := by
  intro L g ks c b clock es h1 h2 h3 h4 h5 h6 L' _
  obtain ⟨k1, k2⟩ := he _ (.cell 0 _) h1 h2
  obtain ⟨k3, k4⟩ := he _ (.map es clock) h3 h4
  exact .it k1 k2 k3 k4 h5 h6
 have c4f : ∀ {L : LMap} {sz : Nat} {es : List PV} {b off n : Nat} (_ : n = es.length) (_ : Rows w F sz es b off), Rows w' F' sz es b off → ∀ L', LExt L L' → Rep w' F' L' (.slf sz es) (.slice (some ⟨b, off, none⟩) n n) := fun h1 _ ih L' _ => .slf h1 ih
 have c4r : ∀ {L : LMap} {o : Nat} {l : Loc} {x : Value} (_ : L o = some l) (_ : l.refAt 0 x) (_ : ∃ b, x = .map b), ∀ L', LExt L L' → Rep w' F' L' (.mref o) x := by
  intro L o l x h1 h2 hf L' h
  obtain ⟨l', h3, h4⟩ := h _ _ h1
  exact .mref h3 (h4.1 _ _ h2) hf
 have c5 : ∀ {L : LMap} {cs : List PV} {b off : Nat} (_ : Row w F cs b off), Row w' F' cs b off → ∀ L', LExt L L' → Rep w' F' L' (.rp cs) (.pointer (some ⟨b, off, none⟩)) := fun _ ih L' _ => .rp ih
 have c6 : ∀ {L : LMap} {o off : Nat} {l : Loc} {x : Value} (_ : L o = some l) (_ : l.refAt off x) (_ : ∃ b, x = .pointer b), ∀ L', LExt L L' → Rep w' F' L' (.ref o off) x := by
  intro L o off l x h1 h2 hf L' h
  obtain ⟨l', h3, h4⟩ := h _ _ h1
  exact .ref h3 (h4.1 _ _ h2) hf
 have c7 : ∀ {L : LMap} {o off len n : Nat} {l : Loc} {x : Value} (_ : L o = some l) (_ : l.oslAt off len n x) (_ : ∃ b m c, x = .slice b m c), ∀ L', LExt L L' → Rep w' F' L' (.osl o off len n) x := by
  intro L o off len n l x h1 h2 hf L' h
  obtain ⟨l', h3, h4⟩ := h _ _ h1
  exact .osl h3 (h4.2.1 _ _ _ _ h2) hf
 have c7' : ∀ {L : LMap} {o i off n : Nat} {l : Loc} {x : Value} (_ : L o = some l) (_ : l.erefAt i off n x) (_ : ∃ b, x = .pointer b), ∀ L', LExt L L' → Rep w' F' L' (.eref o i off n) x := by
  intro L o i off n l x h1 h2 hf L' h
  obtain ⟨l', h3, h4⟩ := h _ _ h1
  exact .eref h3 (h4.2.2 _ _ _ _ h2) hf
 have c8 : ∀ {L : LMap} {fn : Fn} {f c : List PV} {fs cs : List Value} (_ : RepL w F L f fs) (_ : RepL w F L c cs), (∀ L', LExt L L' → RepL w' F' L' f fs) → (∀ L', LExt L L' → RepL w' F' L' c cs) →
   ∀ L', LExt L L' → Rep w' F' L' (.clo fn f c) (.func fn fs.toArray cs.toArray) := fun _ _ i1 i2 L' h => .clo (i1 L' h) (i2 L' h)
 have c9 : ∀ {L : LMap} {t : TypeId} {p : PV} {x : Value} (_ : Rep w F L p x), (∀ L', LExt L L' → Rep w' F' L' p x) → ∀ L', LExt L L' → Rep w' F' L' (.ifc t p) (.iface t x) := fun _ ih L' h => .ifc (ih L' h)
 have c10 : ∀ {L : LMap} {b : Bool} {p : PV} {x : Value} (_ : b = true → Rep w F L p x) (_ : b = false → x = undef), (b = true → ∀ L', LExt L L' → Rep w' F' L' p x) →
   ∀ L', LExt L L' → Rep w' F' L' (.opt b p) x := fun _ hu ih L' h => .opt (fun hb => ih hb L' h) hu
 have c11 : ∀ (L : LMap) (x : Value), ∀ L', LExt L L' → Rep w' F' L' .dead x := fun _ x L' _ => .dead L' x
 have d1 : ∀ L : LMap, ∀ L', LExt L L' → RepL w' F' L' [] [] := fun _ L' _ => .nil L'
 have d2 : ∀ {L : LMap} {c : PV} {cs : List PV} {x : Value} {xs : List Value} (_ : Rep w F L c x) (_ : RepL w F L cs xs), (∀ L', LExt L L' → Rep w' F' L' c x) → (∀ L', LExt L L' → RepL w' F' L' cs xs) →
   ∀ L', LExt L L' → RepL w' F' L' (c :: cs) (x :: xs) := fun _ _ i1 i2 L' h => .cons (i1 L' h) (i2 L' h)
 have e1 : ∀ b off : Nat, Row w' F' [] b off := fun b off => .nil b off
 have e2 : ∀ {c : PV} {cs : List PV} {x : Value} {b off : Nat} (_ : w.cell? ⟨b, off, none⟩ = some x) (_ : ¬ F b) (_ : Rep w F noL c x) (_ : Row w F cs b (off + 1)), (∀ L', LExt noL L' → Rep w' F' L' c x) → Row w' F' cs b (off + 1) →
   Row w' F' (c :: cs) b off := by
  intro c cs x b off h1 h2 _ _ i1 i2
  obtain ⟨g1, g2⟩ := he _ (.cell off x) h1 h2
  exact .cons g1 g2 (i1 _ (LExt.refl _)) i2
 have f1 : ∀ sz b off : Nat, Rows w' F' sz [] b off := fun sz b off => .nil sz b off
 have f2 : ∀ {sz : Nat} {e : PV} {es : List PV} {b off : Nat} (_ : e.cells.length = sz) (_ : Row w F e.cells b off) (_ : Rows w F sz es b (off + sz)), Row w' F' e.cells b off → Rows w' F' sz es b (off + sz) →
   Rows w' F' sz (e :: es) b off := fun h _ _ i1 i2 => .cons h i1 i2
 exact ⟨fun h => m1 c1 c2 c3 c4 c4' c4e c4m c4n c4i c4f c4r c5 c6 c7' c7 c8 c9 c10 c11 d1 d2 e1 e2 f1 f2 h, fun h => m2 c1 c2 c3 c4 c4' c4e c4m c4n c4i c4f c4r c5 c6 c7' c7 c8 c9 c10 c11 d1 d2 e1 e2 f1 f2 h,
  fun h => m3 c1 c2 c3 c4 c4' c4e c4m c4n c4i c4f c4r c5 c6 c7' c7 c8 c9 c10 c11 d1 d2 e1 e2 f1 f2 h, fun h => m4 c1 c2 c3 c4 c4' c4e c4m c4n c4i c4f c4r c5 c6 c7' c7 c8 c9 c10 c11 d1 d2 e1 e2 f1 f2 h⟩
theorem Rep.mono {L L' : LMap} {p : PV} {x : Value} (h : Rep w F L p x) (he : Ext w F w' F') (hl : LExt L L') : Rep w' F' L' p x := (rep_mono_all he).1 h L' hl
theorem RepL.mono {L L' : LMap} {p : List PV} {x : List Value} (h : RepL w F L p x) (he : Ext w F w' F') (hl : LExt L L') : RepL w' F' L' p x := (rep_mono_all he).2.1 h L' hl
theorem Row.mono {p : List PV} {b o : Nat} (h : Row w F p b o) (he : Ext w F w' F') : Row w' F' p b o := (rep_mono_all he).2.2.1 h
theorem Rows.mono {n : Nat} {p : List PV} {b o : Nat} (h : Rows w F n p b o) (he : Ext w F w' F') : Rows w' F' n p b o := (rep_mono_all he).2.2.2 h
end
end Go.Sym
namespace Go.Sym
open Go.RowKit
inductive SObj where
 | box (cs : List PV)
 | arr (sz : Nat) (isnil : Bool) (es : List PV)
 | gone
 | arrc (sz : Nat) (isnil : Bool) (es : List PV) (cap : Nat)
 | map (ks : List Value) (vs : List PV)
 | iter (nl : Bool) (ks : List Value) (vs : List PV) (seen : List Nat)
def look {α : Type} : List (Nat × α) → Nat → Option α
 | [], _ => none
 | (k, x) :: r, n => cond (Nat.beq k n) (some x) (look r n)
theorem look_cons {α : Type} (k n : Nat) (x : α) (r : List (Nat × α)) : look ((k, x) :: r) n = if k = n then some x else look r n := by
 simp only [look]
 cases h : Nat.beq k n
 ·rw [if_neg (by intro e; subst e; simp at h)]; rfl
 ·rw [if_pos (Nat.eq_of_beq_eq_true h)]; rfl
theorem look_append {α : Type} (a b : List (Nat × α)) (n : Nat) : look (a ++ b) n = (look a n).or (look b n) := by
 induction a with
 | nil => simp [look]
 | cons x r ih =>
  obtain ⟨k, x⟩ := x
  rw [List.cons_append, look_cons, look_cons, ih]
  split <;> simp
structure St where
 t : List (Nat × PV)
 o : List (Nat × SObj)
def St.get (S : St) (t : Nat) : Option PV := look S.t t
def St.obj (S : St) (n : Nat) : Option SObj := look S.o n
structure Delta where
 val : PV
 objs : List (Nat × SObj)
def St.put (S : St) (dst : Option Nat) (x : PV) : St := ⟨match dst with | some k => (k, x) :: S.t | none => S.t, S.o⟩
def St.upd (S : St) (l : List (Nat × SObj)) : St := ⟨S.t, l ++ S.o⟩
def St.app (S : St) (dst : Option Nat) (d : Delta) : St := (S.upd d.objs).put dst d.val
def St.eqv (S S' : St) : Prop := (∀ t, S.get t = S'.get t) ∧ ∀ n, S.obj n = S'.obj n
theorem St.eqv.refl (S : St) : S.eqv S := ⟨fun _ => rfl, fun _ => rfl⟩
theorem St.eqv.symm {S S' : St} (h : S.eqv S') : S'.eqv S := ⟨fun t => (h.1 t).symm, fun n => (h.2 n).symm⟩
theorem St.eqv.trans {a b c : St} (h : a.eqv b) (k : b.eqv c) : a.eqv c := ⟨fun t => (h.1 t).trans (k.1 t), fun n => (h.2 n).trans (k.2 n)⟩
@[simp] theorem St.get_put (S : St) (dst : Option Nat) (x : PV) (t : Nat) : (S.put dst x).get t = if dst = some t then some x else S.get t := by
 cases dst with
 | none => simp [St.put, St.get]
 | some k => simp [St.put, St.get, look_cons]
@[simp] theorem St.get_upd (S : St) (l : List (Nat × SObj)) (t : Nat) : (S.upd l).get t = S.get t := rfl
@[simp] theorem St.obj_put (S : St) (dst : Option Nat) (x : PV) (n : Nat) : (S.put dst x).obj n = S.obj n := by cases dst <;> rfl
@[simp] theorem St.obj_upd (S : St) (l : List (Nat × SObj)) (n : Nat) : (S.upd l).obj n = (look l n).or (S.obj n) := by simp [St.upd, St.obj, look_append]
theorem look_none {α : Type} {l : List (Nat × α)} {n : Nat} (h : n ∉ l.map (·.1)) : look l n = none := by
 induction l with
 | nil => rfl
 | cons x r ih =>
  obtain ⟨k, x⟩ := x
  simp at h
  rw [look_cons, if_neg (fun e => h.1 e.symm)]
  exact ih (by simpa using h.2)
def CellsAt (w : World) (F : Nat → Prop) (L : LMap) (cs : List PV) (b off : Nat) : Prop :=
 ∀ j c, cs[j]? = some c → ∃ x, w.cell? ⟨b, off + j, none⟩ = some x ∧ w.frozen? ⟨b, off + j, none⟩ = false ∧ Rep w F L c x
def cellsOf (es : List PV) : List PV := es.flatMap PV.cells
def ItAt (w : World) (F : Nat → Prop) (nl : Bool) (ks : List Value) (vs : List PV) (seen : List Nat) (b : Nat) : Prop :=
 ∃ v, Rep w F noL (.mp nl ks vs) v ∧ ((v = .map none ∧ w.heap[b]? = some (.mapIter none 0 #[] 0)) ∨ ∃ m, v = .map (some m) ∧ w.heap[b]? = some (.mapIter (some m) ks.length seen.toArray ks.length))
theorem ItAt.mono {w w' : World} {F F' : Nat → Prop} {nl : Bool} {ks : List Value} {vs : List PV} {seen : List Nat} {b : Nat} (h : ItAt w F nl ks vs seen b) (he : Ext w F w' F') (hb : w'.heap[b]? = w.heap[b]?) : ItAt w' F' nl ks vs seen b := by
 obtain ⟨v, h1, h2⟩ := h
 exact ⟨v, h1.mono he (LExt.refl _), h2.imp (fun h => ⟨h.1, hb.trans h.2⟩) fun ⟨m, h3, h4⟩ => ⟨m, h3, hb.trans h4⟩⟩
def ObjAt (w : World) (F : Nat → Prop) (L : LMap) : SObj → Loc → Prop
 | .box cs, .box b off n => n = cs.length ∧ CellsAt w F L cs b off
 | .arr sz isnil es, .arr base n cap sz' => sz' = sz ∧ n = es.length ∧ n ≤ cap ∧ isnil = base.isNone ∧ (∀ e ∈ es, e.cells.length = sz) ∧
   match base with
   | none => cap = 0
   | some (b, off) => CellsAt w F L (cellsOf es) b off ∧ ∀ j, j < cap * sz → ∃ x, w.cell? ⟨b, off + j, none⟩ = some x ∧ w.frozen? ⟨b, off + j, none⟩ = false
 | .arrc sz isnil es c, .arr base n cap sz' => c = cap ∧ sz' = sz ∧ n = es.length ∧ n ≤ cap ∧ isnil = base.isNone ∧ (∀ e ∈ es, e.cells.length = sz) ∧
   match base with
   | none => cap = 0
   | some (b, off) => CellsAt w F L (cellsOf es) b off ∧ ∀ j, j < cap * sz → ∃ x, w.cell? ⟨b, off + j, none⟩ = some x ∧ w.frozen? ⟨b, off + j, none⟩ = false
 | .gone, .gone => True
 | .iter nl ks vs seen, .iter b => ItAt w F nl ks vs seen b
 | .map ks vs, .map b => ∃ es clock, w.heap[b]? = some (.map es clock) ∧ es.toList.map (·.key) = ks ∧ RepL w F L vs (es.toList.map (·.val)) ∧ clock = es.size ∧ es.toList.map (·.born) = List.range es.size
 | _, _ => False
structure Fr where
 w0 : World
 X : Nat → Prop
 par : List (Nat × Nat × Nat)
 L0 : LMap
 nt : Nat
 gl : List (Nat × (Obj → Prop)) := []
def Fr.F (fr : Fr) (L : LMap) : Nat → Prop := fun b => fr.X b ∨ ∃ o l, L o = some l ∧ l.blk = some b
def Loc.range : Loc → Option (Nat × Nat × Nat)
 | .box b off n => some (b, off, n)
 | .arr (some (b, off)) _ cap sz => some (b, off, cap * sz)
 | .map b => some (b, 0, 0)
 | .iter b => some (b, 0, 0)
 | _ => none
theorem blk_of_range {l : Loc} {p : Nat × Nat × Nat} (h : l.range = some p) : l.blk = some p.1 := by
 cases l with
 | box b o n => simp [Loc.range] at h; subst h; rfl
 | arr base n cap sz =>
  cases base with
  | none => simp [Loc.range] at h
  | some bo => simp [Loc.range] at h; subst h; rfl
 | gone => simp [Loc.range] at h
 | map b => simp [Loc.range] at h; subst h; rfl
 | iter b => simp [Loc.range] at h; subst h; rfl
def NoCells (o : Obj) : Prop := ∀ c e f, o ≠ .cells c e f
theorem NoCells.map {es : Array MapEntry} {k : Nat} : NoCells (.map es k) := fun _ _ _ h => by cases h
theorem NoCells.iter {m : Option Nat} {s k : Nat} {a : Array Nat} : NoCells (.mapIter m s a k) := fun _ _ _ h => by cases h
def Part (lo n : Nat) (o o' : Obj) : Prop := (∃ c c' e f, o = .cells c e f ∧ o' = .cells c' e f ∧ c'.size = c.size ∧ ∀ j, (j < lo ∨ lo + n ≤ j) → c'[j]? = c[j]?) ∨ (NoCells o ∧ NoCells o')
theorem Part.trans {lo n : Nat} {a b c : Obj} (h : Part lo n a b) (k : Part lo n b c) : Part lo n a c := by
 rcases h with ⟨c1, c2, e, f, rfl, rfl, h3, h4⟩ | ⟨h1, h2⟩
 ·rcases k with ⟨d1, d2, e', f', k1, rfl, k3, k4⟩ | ⟨k1, _⟩
  ·cases k1
   exact .inl ⟨_, _, _, _, rfl, rfl, k3.trans h3, fun j hj => (k4 j hj).trans (h4 j hj)⟩
  ·exact absurd rfl (k1 _ _ _)
 ·rcases k with ⟨d1, d2, e', f', k1, rfl, k3, k4⟩ | ⟨_, k2⟩
  ·exact absurd k1 (h2 _ _ _)
  ·exact .inr ⟨h1, k2⟩
structure Frame0 (fr : Fr) (w : World) : Prop where
 os : w.os = fr.w0.os
 tape : w.tape = fr.w0.tape
 output : w.output = fr.w0.output
 size : fr.w0.heap.size ≤ w.heap.size
 block : ∀ b, b < fr.w0.heap.size → (∀ p ∈ fr.par, p.1 ≠ b) → w.heap[b]? = fr.w0.heap[b]?
 part : ∀ p ∈ fr.par, ∃ o o', fr.w0.heap[p.1]? = some o ∧ w.heap[p.1]? = some o' ∧ Part p.2.1 p.2.2 o o'
 glob : ∀ x ∈ fr.gl, ∃ v, w.heap[x.1]? = some v ∧ x.2 v
 gpar : ∀ x ∈ fr.gl, x.1 < fr.w0.heap.size ∧ ∀ p ∈ fr.par, p.1 ≠ x.1
def Loc.one : Loc → Bool
 | .arr _ _ _ sz => Nat.beq sz 1
 | _ => false
def Kind (w : World) (l : Loc) (b : Nat) : Prop := (∃ c e f, w.heap[b]? = some (.cells c e f) ∧ (f = (0, 0) ∨ (l.one = true ∧ f = (c.size, c.size + 1)))) ∨ ((l = .map b ∨ l = .iter b) ∧ ∃ o, w.heap[b]? = some o ∧ NoCells o)
theorem Kind.cells {w : World} {l : Loc} {b : Nat} (h : Kind w l b) (hm : ∀ b', l ≠ .map b' ∧ l ≠ .iter b') : ∃ c e f, w.heap[b]? = some (.cells c e f) ∧ (f = (0, 0) ∨ (l.one = true ∧ f = (c.size, c.size + 1))) := h.resolve_right fun h => h.1.elim (hm b).1 (hm b).2
theorem Kind.refl {w : World} {l : Loc} {b lo n : Nat} (h : Kind w l b) : ∃ o o', w.heap[b]? = some o ∧ w.heap[b]? = some o' ∧ Part lo n o o' := by
 rcases h with ⟨c, e, f, h, _⟩ | ⟨_, o, h, ho⟩
 ·exact ⟨_, _, h, h, .inl ⟨c, c, e, f, rfl, rfl, rfl, fun _ _ => rfl⟩⟩
 ·exact ⟨_, _, h, h, .inr ⟨ho, ho⟩⟩
theorem Kind.of {w : World} {l : Loc} {b : Nat} {c : Array Value} {e : TypeId} (h : w.heap[b]? = some (.cells c e (0, 0))) : Kind w l b := .inl ⟨c, e, _, h, .inl rfl⟩
theorem Kind.to {w w' : World} {l l' : Loc} {b : Nat} (h : Kind w l b) (hh : w'.heap[b]? = w.heap[b]?) (h1 : l.one = true → l'.one = true) (hm : ∀ b', (l = .map b' ∨ l = .iter b') → l' = l) : Kind w' l' b := by
 rcases h with ⟨c, e, f, g1, g2⟩ | ⟨hl, o, g1, g2⟩
 ·exact .inl ⟨c, e, f, hh.trans g1, g2.imp id fun h => ⟨h1 h.1, h.2⟩⟩
 ·exact .inr ⟨by rw [hm _ hl]; exact hl, o, hh.trans g1, g2⟩
theorem Kind.plain {w : World} {l : Loc} {b : Nat} (h : Kind w l b) (h1 : l.one = false) (hm : ∀ b', l ≠ .map b' ∧ l ≠ .iter b') : ∃ c e, w.heap[b]? = some (.cells c e (0, 0)) := by
 obtain ⟨c, e, f, g1, rfl | g2⟩ := h.cells hm
 ·exact ⟨c, e, g1⟩
 ·rw [h1] at g2; exact absurd g2.1 (by simp)
structure RM (fr : Fr) (S : St) (L : LMap) (w : World) : Prop where
 objs : ∀ n ob, S.obj n = some ob → ∃ l, L n = some l ∧ ObjAt w (fr.F L) L ob l
 dom : ∀ n l, L n = some l → ∃ ob, S.obj n = some ob
 inj : ∀ n n' l l' b, L n = some l → L n' = some l' → l.blk = some b → l'.blk = some b → n = n'
 place : ∀ n l b, L n = some l → l.blk = some b → ¬ fr.X b ∧ ((fr.w0.heap.size ≤ b ∧ b < w.heap.size) ∨ ∃ p ∈ fr.par, l.range = some p)
 kind : ∀ n l p, L n = some l → l.range = some p → Kind w l p.1
 parLt : (∀ p ∈ fr.par, p.1 < fr.w0.heap.size) ∧ ∀ p ∈ fr.par, ∀ q ∈ fr.par, p.1 = q.1 → p = q
 xLt : ∀ b, fr.X b → b < fr.w0.heap.size
 frame : Frame0 fr w
 lext : LExt fr.L0 L
structure R (fr : Fr) (S : St) (L : LMap) (a : Act) (w : World) : Prop where
 mem : RM fr S L w
 nt : a.tmps.size = fr.nt
 defers : a.defers = []
 vals : ∀ t p, S.get t = some p → ∃ x, a.tmps[t]? = some x ∧ Rep w (fr.F L) L p x
theorem RM.eqv {fr : Fr} {S S' : St} {L : LMap} {w : World} (h : RM fr S L w) (he : S.eqv S') : RM fr S' L w :=
 ⟨fun n ob hn => h.objs n ob (by rw [he.2]; exact hn), fun n l hl => by rw [← he.2]; exact h.dom n l hl, h.inj, h.place, h.kind, h.parLt, h.xLt, h.frame, h.lext⟩
theorem R.eqv {fr : Fr} {S S' : St} {L : LMap} {a : Act} {w : World} (h : R fr S L a w) (he : S.eqv S') : R fr S' L a w :=
 ⟨h.mem.eqv he, h.nt, h.defers, fun t p hp => h.vals t p (by rw [he.1]; exact hp)⟩
def _root_.Go.Oper.tmps (o : Oper) : List Nat := o.op.operands.toList.filterMap fun | .tmp t => some t | _ => none
class Globs (P : Program) where
 gl : List (Nat × (Obj → Prop))
def FStep (P : Program) [Globs P] (o : Oper) (S : St) (rn : List Nat) (d : Delta) : Prop :=
 ∀ (fr : Fr) (S' : St), (∀ t ∈ o.tmps, S'.get t = S.get t) → (∀ n ∈ rn, S'.obj n = S.obj n) → ∀ L a w, R fr S' L a w → fr.gl = Globs.gl P →
  ∀ Q, o.wp P a w (fun a' w' => ∃ x L', a' = a.put o.dst x ∧ R fr (S'.upd d.objs) L' a w' ∧ Rep w' (fr.F L') L' d.val x) Q
theorem FStep.agree {P : Program} [Globs P] {o : Oper} {S S₁ : St} {rn : List Nat} {d : Delta} (h : FStep P o S rn d) (ht : ∀ t ∈ o.tmps, S₁.get t = S.get t)
  (hn : ∀ n ∈ rn, S₁.obj n = S.obj n) : FStep P o S₁ rn d :=
 fun fr S' a b => h fr S' (fun t m => (a t m).trans (ht t m)) (fun n m => (b n m).trans (hn n m))
def gpick (want g : Bool) : Bool := cond want g (!g)
def gval (ops : Array Oper) (S : St) (j : Nat) (want : Bool) : Option Bool :=
 match (ops[j]?).bind (·.dst) with
 | none => none
 | some t => match S.get t with
  | some (.v (.bool g)) => some (gpick want g)
  | some (.opt b (.v (.bool g))) => some (b && gpick want g)
  | _ => none
inductive GStep (P : Program) [Globs P] (ops : Array Oper) (o : Oper) (S : St) : List Nat → Delta → Prop
 | plain {rn : List Nat} {d : Delta} : o.guard = none → FStep P o S rn d → GStep P ops o S rn d
 | on {j : Nat} {want γ : Bool} {rn : List Nat} {d : Delta} : o.guard = some (j, want) → gval ops S j want = some γ → γ = true → FStep P o S rn d → GStep P ops o S rn d
 | off {j : Nat} {want γ : Bool} : o.guard = some (j, want) → gval ops S j want = some γ → γ = false → GStep P ops o S [] ⟨.v undef, []⟩
 | sym {j : Nat} {want γ : Bool} {rn : List Nat} {x : PV} : o.guard = some (j, want) → gval ops S j want = some γ → (γ = true → FStep P o S rn ⟨x, []⟩) →
   GStep P ops o S rn ⟨.opt γ x, []⟩
theorem looks_tmps (ops : Array Oper) (o : Oper) (t : Nat) (h : t ∈ o.tmps) : t ∈ o.looksAt ops := by
 unfold Oper.looksAt
 exact List.mem_append_left _ h
theorem looks_guard {ops : Array Oper} {o : Oper} {j : Nat} {want : Bool} {t : Nat} (hg : o.guard = some (j, want)) (h : (ops[j]?).bind (·.dst) = some t) : t ∈ o.looksAt ops := by
 unfold Oper.looksAt
 refine List.mem_append_right _ ?_
 rw [hg]
 simp only [h, Option.toList_some, List.mem_singleton]
theorem gval_agree {ops : Array Oper} {S S₁ : St} {o : Oper} {j : Nat} {want : Bool} (hg : o.guard = some (j, want)) (h : ∀ t ∈ o.looksAt ops, S₁.get t = S.get t) :
  gval ops S₁ j want = gval ops S j want := by
 unfold gval
 cases hb : (ops[j]?).bind (·.dst) with
 | none => rfl
 | some t => simp only []; rw [h t (looks_guard hg hb)]
theorem GStep.agree {P : Program} [Globs P] {ops : Array Oper} {o : Oper} {S S₁ : St} {rn : List Nat} {d : Delta} (h : GStep P ops o S rn d) (ht : ∀ t ∈ o.looksAt ops, S₁.get t = S.get t)
  (hn : ∀ n ∈ rn, S₁.obj n = S.obj n) : GStep P ops o S₁ rn d := by
 have ht' : ∀ t ∈ o.tmps, S₁.get t = S.get t := fun t m => ht t (looks_tmps ops o t m)
 cases h with
 | plain hg hf => exact .plain hg (hf.agree ht' hn)
 | on hg hv hγ hf => exact .on hg ((gval_agree hg ht).trans hv) hγ (hf.agree ht' hn)
 | off hg hv hγ => exact .off hg ((gval_agree hg ht).trans hv) hγ
 | sym hg hv hf => exact .sym hg ((gval_agree hg ht).trans hv) (fun e => (hf e).agree ht' hn)
theorem R.put {fr : Fr} {S : St} {L : LMap} {a : Act} {w : World} {dst : Option Nat} {p : PV} {x : Value} (h : R fr S L a w) (hd : ∀ d, dst = some d → d < fr.nt)
  (hx : Rep w (fr.F L) L p x) : R fr (S.put dst p) L (a.put dst x) w := by
 refine ⟨⟨fun n ob => ?_, fun n l hl => ?_, h.mem.inj, h.mem.place, h.mem.kind, h.mem.parLt, h.mem.xLt, h.mem.frame, h.mem.lext⟩, ?_, ?_, fun t q hq => ?_⟩
 ·rw [St.obj_put]; exact h.mem.objs n ob
 ·rw [St.obj_put]; exact h.mem.dom n l hl
 ·cases dst <;> simp [Act.put, h.nt]
 ·cases dst <;> simp [Act.put, h.defers]
 ·rw [St.get_put] at hq
  cases dst with
  | none => simp at hq; simpa [Act.put] using h.vals t q hq
  | some d =>
   simp only [Act.put, Option.some.injEq] at hq ⊢
   split at hq
   ·rename_i e; subst e
    simp only [Option.some.injEq] at hq
    subst hq
    have : d < a.tmps.size := by rw [h.nt]; exact hd d rfl
    exact ⟨x, by simp [this], hx⟩
   ·rename_i e
    obtain ⟨y, hy, hr⟩ := h.vals t q hq
    exact ⟨y, by rw [Array.getElem?_setIfInBounds_ne e]; exact hy, hr⟩
theorem gval_yield {fr : Fr} {ops : Array Oper} {S : St} {L : LMap} {a : Act} {w : World} {j : Nat} {want γ : Bool} (h : R fr S L a w) (hv : gval ops S j want = some γ) :
  (yielded ops a.tmps j == some want) = γ := by
 unfold gval at hv
 unfold yielded
 cases hb : (ops[j]?).bind (·.dst) with
 | none => rw [hb] at hv; simp at hv
 | some t =>
  rw [hb] at hv
  simp only [Option.bind_some] at hv ⊢
  cases hg : S.get t with
  | none => rw [hg] at hv; simp at hv
  | some p =>
   obtain ⟨x, hx, hr⟩ := h.vals t p hg
   rw [hg] at hv
   rw [hx]
   split at hv <;> simp at hv
   ·rename_i g e
    simp at e; subst e
    cases hr
    subst hv
    cases want <;> cases g <;> rfl
   ·rename_i b g e
    simp at e; subst e
    cases hr with
    | opt h1 h2 =>
     cases b with
     | true =>
      have := h1 rfl
      cases this
      subst hv
      cases want <;> cases g <;> rfl
     | false => have := h2 rfl; subst this; subst hv; simp [undef]
theorem GStep.sound {P : Program} [Globs P] {ops : Array Oper} {o : Oper} {S : St} {rn : List Nat} {d : Delta} (h : GStep P ops o S rn d) {fr : Fr} {L : LMap} {a : Act} {w : World}
  (hR : R fr S L a w) (hG : fr.gl = Globs.gl P) (hd : ∀ k, o.dst = some k → k < fr.nt) {i : Nat} (hi : ops[i]? = some o) (Q : Exit → Act → World → Prop) (K : Act → World → Prop)
  (hK : ∀ L' a' w', R fr (S.app o.dst d) L' a' w' → K a' w') : wpOp P ops Q i K a w := by
 have hnil : ∀ {p : PV} {x : Value}, Rep w (fr.F L) L p x → R fr (S.app o.dst ⟨p, []⟩) L (a.put o.dst x) w := fun hx =>
  R.put (S := S.upd []) (hR.eqv ⟨fun _ => rfl, fun n => by simp [look]⟩) hd hx
 unfold wpOp
 rw [hi]
 simp only []
 cases h with
 | plain hg hf =>
  simp only [Region.wanted, hg, if_true]
  refine .inl (Oper.wp_mono ?_ (hf fr S (fun _ _ => rfl) (fun _ _ => rfl) L a w hR hG Q))
  rintro a' w' ⟨x, L', rfl, h1, h2⟩
  exact hK L' _ _ (h1.put hd h2)
 | on hg hv hγ hf =>
  have := gval_yield hR hv
  simp only [Region.wanted, hg, this, hγ, if_true]
  refine .inl (Oper.wp_mono ?_ (hf fr S (fun _ _ => rfl) (fun _ _ => rfl) L a w hR hG Q))
  rintro a' w' ⟨x, L', rfl, h1, h2⟩
  exact hK L' _ _ (h1.put hd h2)
 | off hg hv hγ =>
  have := gval_yield hR hv
  simp only [Region.wanted, hg, this, hγ]
  exact hK L _ _ (hnil (.v _ _))
 | sym hg hv hf =>
  rename_i j want γ x
  have := gval_yield hR hv
  simp only [Region.wanted, hg, this]
  cases γ with
  | false => exact hK L _ _ (hnil (.opt (by simp) (fun _ => rfl)))
  | true =>
   simp only [if_true]
   refine .inl (Oper.wp_mono ?_ (hf rfl fr S (fun _ _ => rfl) (fun _ _ => rfl) L a w hR hG Q))
   rintro a' w' ⟨x', L', rfl, h1, h2⟩
   exact hK L' _ _ (h1.put hd (.opt (fun _ => h2) (by simp)))
end Go.Sym
