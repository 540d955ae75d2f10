/- A part of the proof: SymG. -/
import Derived.Laws.Entries
import Derived.Test.YteailifhgfijgaaGreatDoorPart04
set_option linter.unusedVariables false
set_option linter.unusedSimpArgs false
namespace Go.Sym
open Go.RowKit
def nth : List PV → Nat → Option PV
 | [], _ => none
 | c :: _, 0 => some c
 | _ :: cs, n + 1 => nth cs n
theorem nth_eq : ∀ (l : List PV) (n : Nat), nth l n = l[n]?
 | [], n => by simp [nth]
 | c :: cs, 0 => by simp [nth]
 | c :: cs, n + 1 => by simp [nth, nth_eq cs n]
inductive DropR : Nat → List PV → List PV → Prop
 | zero {cs : List PV} : DropR 0 cs cs
 | succ {n : Nat} {c : PV} {cs ds : List PV} : DropR n cs ds → DropR (n + 1) (c :: cs) ds
inductive TakeR : Nat → List PV → List PV → Prop
 | zero {cs : List PV} : TakeR 0 cs []
 | succ {n : Nat} {c : PV} {cs ds : List PV} : TakeR n cs ds → TakeR (n + 1) (c :: cs) (c :: ds)
theorem DropR.eq {n : Nat} {cs ds : List PV} (h : DropR n cs ds) : ds = cs.drop n ∧ n ≤ cs.length := by
 induction h with
 | zero => simp
 | succ _ ih => exact ⟨by simpa using ih.1, by simp; exact ih.2⟩
theorem TakeR.eq {n : Nat} {cs ds : List PV} (h : TakeR n cs ds) : ds = cs.take n ∧ n ≤ cs.length ∧ ds.length = n := by
 induction h with
 | zero => simp
 | succ _ ih => exact ⟨by simp [← ih.1], by simp; exact ih.2.1, by simp [ih.2.2]⟩
inductive OpdsO (γ : Bool) (S : St) : List Operand → List PV → Prop
 | nil : OpdsO γ S [] []
 | cons {x : Operand} {p : PV} {xs : List Operand} {ps : List PV} : OpdO γ S x p → OpdsO γ S xs ps → OpdsO γ S (x :: xs) (p :: ps)
section
variable {P : Program} {T : Tbl} {fr : Fr} {S S' : St} {L : LMap} {a : Act} {w : World} {γ : Bool}
theorem OpdsO.rep (hγ : γ = true) (hR : R fr S' L a w) : ∀ {xs : List Operand} {ps : List PV}, OpdsO γ S xs ps → (∀ x ∈ xs, ∀ t, x = .tmp t → S'.get t = S.get t) → RepL w (fr.F L) L ps (xs.map a.eval)
 | _, _, .nil, _ => .nil L
 | _, _, .cons h1 h2, ht => .cons (h1.rep hγ hR (ht _ (by simp))) (OpdsO.rep hγ hR h2 fun x hx => ht x (by simp [hx]))
theorem Row.get {F : Nat → Prop} {b : Nat} : ∀ {cs : List PV} {off : Nat}, Row w F cs b off → ∀ (j : Nat) (c : PV), cs[j]? = some c → ∃ x, w.cell? ⟨b, off + j, none⟩ = some x ∧ ¬ F b ∧ Rep w F noL c x
 | [], _, _, j, c, hc => by simp at hc
 | c :: cs, off, h, j, d, hc => by
  cases h with
  | cons h1 h2 h3 h4 =>
   cases j with
   | zero => simp at hc; subst hc; exact ⟨_, h1, h2, h3⟩
   | succ j =>
    obtain ⟨x, g1, g2, g3⟩ := Row.get h4 j d (by simpa using hc)
    exact ⟨x, by rw [show off + (j + 1) = off + 1 + j by omega]; exact g1, g2, g3⟩
theorem Row.drop {F : Nat → Prop} {b : Nat} : ∀ {n : Nat} {cs ds : List PV} {off : Nat}, Row w F cs b off → DropR n cs ds → Row w F ds b (off + n)
 | _, _, _, off, h, .zero => h
 | n + 1, _, _, off, h, .succ hd => by
  cases h with
  | cons h1 h2 h3 h4 => rw [show off + (n + 1) = off + 1 + n by omega]; exact h4.drop hd
theorem Rows.get {F : Nat → Prop} {sz b : Nat} : ∀ {es : List PV} {off : Nat}, Rows w F sz es b off → ∀ (i : Nat) (e : PV), es[i]? = some e → e.cells.length = sz ∧ Row w F e.cells b (off + i * sz)
 | [], _, _, i, e, he => by simp at he
 | e :: es, off, h, i, d, hd => by
  cases h with
  | cons h1 h2 h3 =>
   cases i with
   | zero => simp at hd; subst hd; exact ⟨h1, by simpa using h2⟩
   | succ i =>
    have := Rows.get h3 i d (by simpa using hd)
    rw [Nat.succ_mul, show off + (i * sz + sz) = off + sz + i * sz by omega]
    exact this
theorem LExt.ofNoL (L : LMap) : LExt noL L := fun _ _ h => by simp [noL] at h
theorem Rep.ofNoL {F : Nat → Prop} {p : PV} {x : Value} (h : Rep w F noL p x) : Rep w F L p x := h.mono (Ext.refl w F) (LExt.ofNoL L)
theorem Rep.eref_at {F : Nat → Prop} {o i k n cap sz m : Nat} {base : Option (Nat × Nat)} {x : Value} (hl : L o = some (.arr base m cap sz)) (h : Rep w F L (.eref o i k n) x) (hn : n = m) :
  ∃ b off, base = some (b, off) ∧ i < m ∧ x = .pointer (some ⟨b, off + i * sz + k, none⟩) := by
 cases h with
 | eref h1 h2 _ =>
  rw [hl] at h1; cases h1
  cases base with
  | none => simp only [Loc.erefAt] at h2; omega
  | some p => obtain ⟨h3, h4⟩ := h2.2 hn; exact ⟨_, _, rfl, by omega, h4⟩
inductive AddR (S : St) (off : Nat) : PV → List Nat → PV → Prop
 | ref {o k : Nat} {cs : List PV} : S.obj o = some (.box cs) → AddR S off (.ref o k) [o] (.ref o (k + off))
 | rp {cs ds : List PV} : DropR off cs ds → AddR S off (.rp cs) [] (.rp ds)
 | eref {o i k n sz : Nat} {isnil : Bool} {es : List PV} : S.obj o = some (.arr sz isnil es) → Side (n = es.length) → AddR S off (.eref o i k n) [o] (.eref o i (k + off) n)
theorem AddR.sound {off : Nat} {p q : PV} {rn : List Nat} (h : AddR S off p rn q) (hR : R fr S' L a w) (hn : ∀ n ∈ rn, S'.obj n = S.obj n) {x : Value} (hx : Rep w (fr.F L) L p x) :
  ∃ b o, x = .pointer (some ⟨b, o, none⟩) ∧ Rep w (fr.F L) L q (.pointer (some ⟨b, o + off, none⟩)) := by
 cases h with
 | ref ho =>
  obtain ⟨b, o', hl, _⟩ := hR.box ((hn _ (by simp)).trans ho)
  have := hx.ref_at hl
  subst this
  exact ⟨_, _, rfl, .ref hl (by simp [Loc.refAt, Nat.add_assoc]) ⟨_, rfl⟩⟩
 | rp hd =>
  cases hx with
  | rp hrow => exact ⟨_, _, rfl, .rp (hrow.drop hd)⟩
 | eref ho hs =>
  obtain ⟨base, cap, hl, _⟩ := hR.arr ((hn _ (by simp)).trans ho)
  obtain ⟨b, o', rfl, hi, rfl⟩ := hx.eref_at hl hs
  have hs' : _ = _ := hs
  exact ⟨_, _, rfl, .eref hl ⟨by omega, fun _ => ⟨hi, by simp [Nat.add_assoc]⟩⟩ ⟨_, rfl⟩⟩
theorem und_field (hT : TOk P T) {s f : Nat} {ti : TI} {fs : List (Nat × Nat × TypeId)} {off sz ft : Nat} (hl : look T s = some ti) (hd : ti.d = .struct fs) (hf : fs[f]? = some (off, sz, ft)) (hz : sz ≠ 0) :
  ∃ fields fld, P.underlying s = some (.struct fields) ∧ fields[f]? = some fld ∧ fld.offset = off ∧ P.cellsOf fld.type = sz ∧ fld.type = ft := by
 obtain ⟨fields, h1, h2⟩ := und_struct hT hl hd
 rw [h2, List.getElem?_map] at hf
 cases hg : fields.toList[f]? with
 | none => rw [hg] at hf; simp at hf
 | some fld =>
  rw [hg] at hf
  simp only [Option.map_some, Option.some.injEq, Prod.mk.injEq] at hf
  obtain ⟨h3, h4, h5⟩ := hf
  refine ⟨fields, fld, h1, by rw [← Array.getElem?_toList]; exact hg, h3, ?_, h5⟩
  split at h4
  ·exact absurd h4.symm hz
  ·exact h4
theorem run_sizeOf {t n : Nat} (h : P.cellsOf t = n) (hz : n ≠ 0) (w : World) : (sizeOf t).run P w = .ok n w := by
 unfold Program.cellsOf at h
 cases hi : P.info? t with
 | none => rw [hi] at h; simp at h; omega
 | some i => rw [hi] at h; simp at h; simp [sizeOf, typeInfo, hi, h]
theorem F_fieldAddr [Globs P] (hT : TOk P T) (hγ : γ = true) {dst : Option Tmp} {s f ty : Nat} {x : Operand} {pos : String} {aft : Array Edge} {g : Option (Nat × Bool)} {p q : PV} {rn : List Nat} {ti : TI}
  {fs : List (Nat × Nat × TypeId)} {off sz ft : Nat} (hx : OpdO γ S x p) (hl : look T s = some ti) (hd : ti.d = .struct fs) (hf : fs[f]? = some (off, sz, ft)) (hz : Nat.beq sz 0 = false) (ha : AddR S off p rn q) :
  FStep P ⟨dst, .fieldAddr s x f, ty, pos, aft, g⟩ S rn ⟨q, []⟩ := by
 have hz' : sz ≠ 0 := fun e => by subst e; simp at hz
 refine FStep.val fun fr S' L a w ht hn hR => ?_
 have hr := hx.rep hγ hR (ht x (by simp [Op.operands]))
 obtain ⟨b, o, hv, hq⟩ := ha.sound hR hn hr
 obtain ⟨fields, fld, h1, h2, h3, h4, _⟩ := und_field hT hl hd hf hz'
 refine ⟨_, ?_, hq⟩
 simp [execOp, Instr.fieldAt, hv, Instr.sureAddr, run_underlying h1, h2, fieldPlace, run_sizeOf h4 hz', hz', Addr.add_lit, h3]
def TI.agg (ti : TI) : Option Nat :=
 match ti.d with
 | .struct _ => some ti.size
 | .array _ _ => some ti.size
 | _ => none
inductive LoadR (S : St) : Option Nat → PV → List Nat → PV → Prop
 | rp1 {c : PV} {cs : List PV} : LoadR S none (.rp (c :: cs)) [] c
 | rpA {m : Nat} {cs ds : List PV} : TakeR m cs ds → LoadR S (some m) (.rp cs) [] (.agg ds)
 | ref1 {o k : Nat} {cs : List PV} {c : PV} : S.obj o = some (.box cs) → nth cs k = some c → LoadR S none (.ref o k) [o] c
 | refA {o k m : Nat} {cs es ds : List PV} : S.obj o = some (.box cs) → DropR k cs es → TakeR m es ds → LoadR S (some m) (.ref o k) [o] (.agg ds)
 | eref1 {o i k n sz : Nat} {isnil : Bool} {es : List PV} {e c : PV} : S.obj o = some (.arr sz isnil es) → Side (n = es.length) → es[i]? = some e → nth e.cells k = some c → LoadR S none (.eref o i k n) [o] c
 | erefA {o i k n sz m : Nat} {isnil : Bool} {es cs ds : List PV} {e : PV} : S.obj o = some (.arr sz isnil es) → Side (n = es.length) → es[i]? = some e → DropR k e.cells cs → TakeR m cs ds →
   LoadR S (some m) (.eref o i k n) [o] (.agg ds)
def isAggD : TypeDesc → Bool
 | .struct _ => true
 | .array _ _ => true
 | _ => false
theorem isAgg_none {t : TypeId} {d : TypeDesc} (h : P.underlying t = some d) (ha : isAggD d = false) (w : World) : (isAgg t).run P w = .ok false w := by
 cases d <;> simp [isAggD] at ha <;> simp [isAgg, run_underlying h]
theorem isAgg_some {t : TypeId} {d : TypeDesc} (h : P.underlying t = some d) (ha : isAggD d = true) (w : World) : (isAgg t).run P w = .ok true w := by
 cases d <;> simp [isAggD] at ha <;> simp [isAgg, run_underlying h]
theorem agg_spec (hT : TOk P T) {t : TypeId} {ti : TI} (hl : look T t = some ti) : ∃ d, P.underlying t = some d ∧ (isAggD d = ti.agg.isSome) ∧ ∀ m, ti.agg = some m → m = ti.size := by
 obtain ⟨info, desc, _, h2, h3, _⟩ := hT.get hl
 refine ⟨desc, h2, ?_, ?_⟩
 ·unfold TI.agg; rw [h3]; cases desc <;> rfl
 ·intro m hm
  unfold TI.agg at hm
  rw [h3] at hm
  cases desc <;> simp [TD.of] at hm <;> exact hm.symm
theorem run_loadVar1 (hT : TOk P T) {t : TypeId} {ti : TI} (hl : look T t = some ti) (ha : ti.agg = none) {b o : Nat} {x : Value} (hx : w.cell? ⟨b, o, none⟩ = some x) : (loadVar t ⟨b, o, none⟩).run P w = .ok x w := by
 obtain ⟨d, h1, h2, _⟩ := agg_spec hT hl
 rw [ha] at h2
 simp [loadVar, isAgg_none h1 h2, hx]
theorem run_loadVarA (hT : TOk P T) {t m : Nat} {ti : TI} (hl : look T t = some ti) (ha : ti.agg = some m) {b o : Nat} {xs : List Value} (hm : xs.length = m) (hx : ∀ (j : Nat) v, xs[j]? = some v → w.cell? ⟨b, o + j, none⟩ = some v) :
  (loadVar t ⟨b, o, none⟩).run P w = .ok (.agg xs.toArray) w := by
 obtain ⟨d, h1, h2, h3⟩ := agg_spec hT hl
 rw [ha] at h2
 have hs := h3 m ha
 have hlc := run_loadCells_list (P := P) w ⟨b, o, none⟩ xs (fun j v hv => by rw [Addr.add_lit]; exact hx j v hv)
 rw [hm, hs] at hlc
 simp [loadVar, isAgg_some h1 h2, size_of hT hl, hlc]
theorem cells_list {F : Nat → Prop} {L : LMap} {b : Nat} : ∀ {ds : List PV} {o : Nat}, (∀ (j : Nat) c, ds[j]? = some c → ∃ x, w.cell? ⟨b, o + j, none⟩ = some x ∧ Rep w F L c x) →
  ∃ xs : List Value, xs.length = ds.length ∧ RepL w F L ds xs ∧ ∀ (j : Nat) v, xs[j]? = some v → w.cell? ⟨b, o + j, none⟩ = some v
 | [], o, _ => ⟨[], rfl, .nil L, fun j v h => by simp at h⟩
 | c :: ds, o, h => by
  obtain ⟨x, h1, h2⟩ := h 0 c rfl
  obtain ⟨xs, g1, g2, g3⟩ := cells_list (ds := ds) (o := o + 1) (F := F) (L := L) (fun j d hd => by
   obtain ⟨y, k1, k2⟩ := h (j + 1) d (by simpa using hd)
   exact ⟨y, by rw [show o + 1 + j = o + (j + 1) by omega]; exact k1, k2⟩)
  refine ⟨x :: xs, by simp [g1], .cons h2 g2, fun j v hv => ?_⟩
  cases j with
  | zero => simp at hv; subst hv; simpa using h1
  | succ j => rw [show o + (j + 1) = o + 1 + j by omega]; exact g3 j v (by simpa using hv)
theorem LoadR.sound (hT : TOk P T) {t : TypeId} {ti : TI} (hl : look T t = some ti) {p q : PV} {rn : List Nat} (h : LoadR S ti.agg p rn q) (hR : R fr S' L a w) (hn : ∀ n ∈ rn, S'.obj n = S.obj n) {x : Value} (hx : Rep w (fr.F L) L p x) :
  ∃ b o y, x = .pointer (some ⟨b, o, none⟩) ∧ (loadVar t ⟨b, o, none⟩).run P w = .ok y w ∧ Rep w (fr.F L) L q y := by
 generalize hag : ti.agg = ag at h
 cases h with
 | rp1 =>
  cases hx with
  | rp hrow =>
   cases hrow with
   | cons h1 h2 h3 h4 => exact ⟨_, _, _, rfl, run_loadVar1 hT hl hag h1, h3.ofNoL⟩
 | rpA ht =>
  rename_i m cs ds
  obtain ⟨e1, e2, e3⟩ := ht.eq
  cases hx with
  | rp hrow =>
   rename_i b off
   obtain ⟨xs, g1, g2, g3⟩ := cells_list (w := w) (F := fr.F L) (L := L) (b := b) (ds := ds) (o := off) (fun j c hc => by
    rw [e1, List.getElem?_take] at hc
    split at hc
    ·obtain ⟨y, k1, _, k3⟩ := hrow.get j c hc
     exact ⟨y, k1, k3.ofNoL⟩
    ·simp at hc)
   exact ⟨_, _, _, rfl, run_loadVarA hT hl hag (g1.trans e3) g3, .agg g2⟩
 | ref1 ho hc =>
  obtain ⟨b, off, hl', hcs⟩ := hR.box ((hn _ (by simp)).trans ho)
  have := hx.ref_at hl'
  subst this
  rw [nth_eq] at hc
  obtain ⟨y, k1, _, k3⟩ := hcs _ _ hc
  exact ⟨_, _, _, rfl, run_loadVar1 hT hl hag k1, k3⟩
 | refA ho hd ht =>
  obtain ⟨e1, e2, e3⟩ := ht.eq
  obtain ⟨d1, d2⟩ := hd.eq
  obtain ⟨b, off, hl', hcs⟩ := hR.box ((hn _ (by simp)).trans ho)
  have := hx.ref_at hl'
  subst this
  rename_i o k m cs es ds
  obtain ⟨xs, g1, g2, g3⟩ := cells_list (w := w) (F := fr.F L) (L := L) (b := b) (ds := ds) (o := off + k) (fun j c hc => by
   rw [e1, List.getElem?_take] at hc
   split at hc
   ·rw [d1, List.getElem?_drop] at hc
    obtain ⟨y, k1, _, k3⟩ := hcs _ _ hc
    exact ⟨y, by rw [Nat.add_assoc]; exact k1, k3⟩
   ·simp at hc)
  exact ⟨_, _, _, rfl, run_loadVarA hT hl hag (g1.trans e3) g3, .agg g2⟩
 | eref1 ho hs he hc =>
  obtain ⟨base, cap, hl', _, _, hsz, hcells⟩ := hR.arr ((hn _ (by simp)).trans ho)
  obtain ⟨b, off, rfl, hi, rfl⟩ := hx.eref_at hl' hs
  rw [nth_eq] at hc
  obtain ⟨y, k1, _, k3⟩ := hcells.1 _ _ (cellsOf_get hsz he hc)
  exact ⟨_, _, _, rfl, run_loadVar1 hT hl hag (by rw [Nat.add_assoc]; exact k1), k3⟩
 | erefA ho hs he hd ht =>
  rename_i o i k n sz m isnil es cs ds e
  obtain ⟨e1, e2, e3⟩ := ht.eq
  obtain ⟨d1, d2⟩ := hd.eq
  obtain ⟨base, cap, hl', _, _, hsz, hcells⟩ := hR.arr ((hn _ (by simp)).trans ho)
  obtain ⟨b, off, rfl, hi, rfl⟩ := hx.eref_at hl' hs
  obtain ⟨xs, g1, g2, g3⟩ := cells_list (w := w) (F := fr.F L) (L := L) (b := b) (ds := ds) (o := off + i * sz + k) (fun j c hc => by
   rw [e1, List.getElem?_take] at hc
   split at hc
   ·rw [d1, List.getElem?_drop] at hc
    obtain ⟨y, k1, _, k3⟩ := hcells.1 _ _ (cellsOf_get hsz he hc)
    exact ⟨y, by rw [show off + i * sz + k + j = off + (i * sz + (k + j)) by omega]; exact k1, k3⟩
   ·simp at hc)
  exact ⟨_, _, _, rfl, run_loadVarA hT hl hag (g1.trans e3) g3, .agg g2⟩
theorem F_load [Globs P] (hT : TOk P T) (hγ : γ = true) {dst : Option Tmp} {t ty : Nat} {x : Operand} {pos : String} {aft : Array Edge} {g : Option (Nat × Bool)} {p q : PV} {rn : List Nat} {ti : TI} {ag : Option Nat}
  (hx : OpdO γ S x p) (hl : look T t = some ti) (hag : ti.agg = ag) (h : LoadR S ag p rn q) : FStep P ⟨dst, .load t x, ty, pos, aft, g⟩ S rn ⟨q, []⟩ := by
 subst hag
 refine FStep.val fun fr S' L a w ht hn hR => ?_
 have hr := hx.rep hγ hR (ht x (by simp [Op.operands]))
 obtain ⟨b, o, y, hv, hld, hq⟩ := h.sound hT hl hR hn hr
 exact ⟨y, by simp [execOp, Instr.loadAt, hv, Instr.sureAddr, hld], hq⟩
theorem Rep.osl_at {F : Nat → Prop} {o off len n m cap sz : Nat} {base : Option (Nat × Nat)} {x : Value} (hl : L o = some (.arr base m cap sz)) (h : Rep w F L (.osl o off len n) x) (hn : n = m) : sliceAt base m cap sz off len x := by
 cases h with
 | osl h1 h2 _ => rw [hl] at h1; cases h1; exact h2.2 hn
inductive IdxR (S : St) : TD → Nat → PV → Int → List Nat → PV → Prop
 | sl {t : TypeId} {nl : Bool} {sz : Nat} {es : List PV} {i : Int} {e : PV} : Side (0 ≤ i ∧ i < es.length) → es[i.toNat]? = some e → IdxR S (.slice t) sz (.sl nl sz es) i [] (.rp e.cells)
 | osl {t : TypeId} {sz o off len n : Nat} {isnil : Bool} {es : List PV} {i : Int} : S.obj o = some (.arr sz isnil es) → Side (n = es.length) → Side (0 ≤ i ∧ i < len) → IdxR S (.slice t) sz (.osl o off len n) i [o] (.eref o (off + i.toNat) 0 n)
 | aref {t : TypeId} {sz o k m : Nat} {cs : List PV} {i : Int} : S.obj o = some (.box cs) → Side (0 ≤ i ∧ i < m) → IdxR S (.array m t) sz (.ref o k) i [o] (.ref o (k + i.toNat * sz))
 | arp {t : TypeId} {sz m : Nat} {cs : List PV} {i : Int} : Side (0 ≤ i ∧ i < m) → Side (i.toNat * sz ≤ cs.length) → IdxR S (.array m t) sz (.rp cs) i [] (.rp (cs.drop (i.toNat * sz)))
theorem Row.dropN {F : Nat → Prop} {b : Nat} : ∀ {n : Nat} {cs : List PV} {off : Nat}, Row w F cs b off → n ≤ cs.length → Row w F (cs.drop n) b (off + n)
 | 0, _, off, h, _ => by simpa using h
 | n + 1, [], off, h, hn => by simp at hn
 | n + 1, c :: cs, off, h, hn => by
  cases h with
  | cons h1 h2 h3 h4 =>
   rw [show off + (n + 1) = off + 1 + n by omega]
   simpa using h4.dropN (n := n) (by simpa using hn)
def TD.elem : TD → Option TypeId
 | .slice e => some e
 | .array _ e => some e
 | _ => none
theorem F_indexAddr [Globs P] (hT : TOk P T) (hγ : γ = true) {dst : Option Tmp} {t ty e : Nat} {x y : Operand} {pos : String} {aft : Array Edge} {g : Option (Nat × Bool)} {p q : PV} {rn : List Nat} {ti ei : TI} {td : TD} {k : IntKind} {i : Int} {sz : Nat}
  (hx : OpdO γ S x p) (hy : OpdO γ S y (.v (.int k i))) (hl : look T t = some ti) (htd : ti.d = td) (he : td.elem = some e) (hle : look T e = some ei) (hsz : ei.size = sz) (h : IdxR S td sz p i rn q) :
  FStep P ⟨dst, .indexAddr t x y, ty, pos, aft, g⟩ S rn ⟨q, []⟩ := by
 refine FStep.val fun fr S' L a w ht hn hR => ?_
 have hr := hx.rep hγ hR (ht x (by simp [Op.operands]))
 have hi := (hy.rep hγ hR (ht y (by simp [Op.operands]))).inv_v
 have hso : (sizeOf e).run P w = .ok sz w := by rw [size_of hT hle, hsz]
 cases h with
 | sl hs hel =>
  simp [TD.elem] at he; subst he
  have hu := und_slice hT hl htd
  generalize hev : a.eval x = xv at hr
  cases hr with
  | slNil => simp at hel
  | slE => simp at hel
  | sl h1 h2 h3 =>
   obtain ⟨g1, g2⟩ := h3.get _ _ hel
   have hs' : 0 ≤ i ∧ i < _ := hs
   refine ⟨_, ?_, .rp g2⟩
   simp [execOp, Instr.indexAt, hev, hi, asIntOf, run_underlying hu, h1, hs', hso, Addr.add_lit]
 | osl ho hs hb =>
  simp [TD.elem] at he; subst he
  have hu := und_slice hT hl htd
  obtain ⟨base, cap, hl', hcap, _, _, hcells⟩ := hR.arr ((hn _ (by simp)).trans ho)
  have hsl := hr.osl_at hl' hs
  have hb' : 0 ≤ i ∧ i < _ := hb
  obtain ⟨s1, s2⟩ := hsl
  cases base with
  | none =>
   exfalso
   simp only at hcells
   omega
  | some bo =>
   obtain ⟨b, off0⟩ := bo
   obtain ⟨ad, c, hv, hlc, hpos, _⟩ := s2
   have had := hpos (by omega)
   subst had
   refine ⟨_, ?_, .eref hl' ⟨by have : _ = _ := hs; omega, fun _ => ⟨?_, rfl⟩⟩ ⟨_, rfl⟩⟩
   ·simp [execOp, Instr.indexAt, hv, hi, asIntOf, run_underlying hu, hb', hso, Addr.add_lit]
    rw [Nat.add_mul]; omega
   ·have : _ = _ := hs; omega
 | aref ho hb =>
  simp [TD.elem] at he; subst he
  have hu := und_array hT hl htd
  obtain ⟨b, off, hl', hcs⟩ := hR.box ((hn _ (by simp)).trans ho)
  have hv := hr.ref_at hl'
  have hb' : 0 ≤ i ∧ i < _ := hb
  refine ⟨_, ?_, .ref hl' rfl ⟨_, rfl⟩⟩
  simp [execOp, Instr.indexAt, hv, hi, asIntOf, run_underlying hu, Instr.sureAddr, hb', hso, Addr.add_lit]
  omega
 | arp hb hle2 =>
  simp [TD.elem] at he; subst he
  have hu := und_array hT hl htd
  have hb' : 0 ≤ i ∧ i < _ := hb
  generalize hev : a.eval x = xv at hr
  cases hr with
  | rp hrow =>
   refine ⟨_, ?_, .rp (hrow.dropN hle2)⟩
   simp [execOp, Instr.indexAt, hev, hi, asIntOf, run_underlying hu, Instr.sureAddr, hb', hso, Addr.add_lit]
end
end Go.Sym
