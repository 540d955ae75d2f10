/- A part of the proof: SymH. -/
import Derived.Test.YteailifhgfijgaaGreatDoorPart05
set_option linter.unusedVariables false
set_option linter.unusedSimpArgs false
namespace Go.Sym
open Go.RowKit
section
variable {P : Program} {T : Tbl} {fr : Fr} {S S' : St} {L : LMap} {a : Act} {w : World} {γ : Bool}
variable {dst : Option Tmp} {ty : Nat} {pos : String} {aft : Array Edge} {g : Option (Nat × Bool)}
theorem F_move [Globs P] (hγ : γ = true) {x : Operand} {p : PV} (hx : OpdO γ S x p) : FStep P ⟨dst, .move x, ty, pos, aft, g⟩ S [] ⟨p, []⟩ :=
 FStep.val fun fr S' L a w ht hn hR => ⟨_, rfl, hx.rep hγ hR (ht x (by simp [Op.operands]))⟩
theorem F_assign [Globs P] (hγ : γ = true) {x : Operand} {p : PV} (hx : OpdO γ S x p) : FStep P ⟨dst, .assign x, ty, pos, aft, g⟩ S [] ⟨p, []⟩ :=
 FStep.val fun fr S' L a w ht hn hR => ⟨_, rfl, hx.rep hγ hR (ht x (by simp [Op.operands]))⟩
inductive PickR (γ : Bool) (b : Bool) : PV → PV → PV → Prop
 | and {g' y : Bool} : Side (γ = true → b = true → g' = true) → PickR γ b (.opt g' (bV y)) (bV false) (bV (b && y))
 | or {g' y : Bool} : Side (γ = true → b = false → g' = true) → PickR γ b (bV true) (.opt g' (bV y)) (bV (b || y))
 | both {x y : Bool} : PickR γ b (bV x) (bV y) (bV (cond b x y))
 | selT {x : PV} {y : Value} : Side (b = true) → PickR γ b x (.v y) x
 | selF {x : PV} {y : Value} : Side (b = false) → PickR γ b (.v y) x x
theorem F_pick [Globs P] (hγ : γ = true) {c x y : Operand} {b : Bool} {p q r : PV} (hc : OpdO γ S c (bV b)) (hx : Opd S x p) (hy : Opd S y q) (h : PickR γ b p q r) : FStep P ⟨dst, .pick c x y, ty, pos, aft, g⟩ S [] ⟨r, []⟩ := by
 refine FStep.val fun fr S' L a w ht hn hR => ?_
 have h1 := (hc.rep hγ hR (ht c (by simp [Op.operands]))).inv_v
 have h2 := hx.rep hR (ht x (by simp [Op.operands]))
 have h3 := hy.rep hR (ht y (by simp [Op.operands]))
 refine ⟨if b then a.eval x else a.eval y, by simp [execOp, h1, asBool], ?_⟩
 cases h with
 | and hs =>
  cases b with
  | true =>
   cases h2 with
   | opt k1 _ => exact k1 (hs hγ rfl)
  | false => exact h3
 | or hs =>
  cases b with
  | true => exact h2
  | false =>
   cases h3 with
   | opt k1 _ => exact k1 (hs hγ rfl)
 | both => cases b <;> first | exact h2 | exact h3
 | selT hs => have : b = true := hs; subst this; exact h2
 | selF hs => have : b = false := hs; subst this; exact h3
theorem F_binOp [Globs P] (hT : TOk P T) (hγ : γ = true) {op : BinOp} {t t' : TypeId} {x y : Operand} {p q r : PV} {rn : List Nat} (hx : OpdO γ S x p) (hy : OpdO γ S y q) (h : BinR T S t op p q rn r) :
  FStep P ⟨dst, .binOp op t x y t', ty, pos, aft, g⟩ S rn ⟨r, []⟩ := by
 refine FStep.val fun fr S' L a w ht hn hR => ?_
 obtain ⟨z, h1, h2⟩ := h.sound (w := w) hT x y (hx.rep hγ hR (ht x (by simp [Op.operands]))) (hy.rep hγ hR (ht y (by simp [Op.operands])))
 refine ⟨z, ?_, h2⟩
 simp only [execOp, Sem.run_bind] at h1 ⊢
 rw [h1]; rfl
inductive UnR : UnOp → PV → PV → Prop
 | not {b : Bool} : UnR .not (bV b) (bV (!b))
 | neg {k : IntKind} {n : Int} : UnR .neg (.v (.int k n)) (.v (.int k (k.wrap (0 - n))))
 | xor {k : IntKind} {n : Int} : UnR .xor (.v (.int k n)) (.v (.int k (bitOp .xor k (if k.signed then -1 else k.max) n)))
theorem F_unOp [Globs P] (hγ : γ = true) {op : UnOp} {t : TypeId} {x : Operand} {p q : PV} (hx : OpdO γ S x p) (h : UnR op p q) : FStep P ⟨dst, .unOp op t x, ty, pos, aft, g⟩ S [] ⟨q, []⟩ := by
 refine FStep.val fun fr S' L a w ht hn hR => ?_
 have h1 := hx.rep hγ hR (ht x (by simp [Op.operands]))
 cases h with
 | not => have h1 := h1.inv_v; exact ⟨_, by simp [execOp, h1, Op.unary], .v _ _⟩
 | neg => have h1 := h1.inv_v; exact ⟨_, by simp [execOp, h1, Op.unary, Op.intArith], .v _ _⟩
 | xor => have h1 := h1.inv_v; exact ⟨_, by simp [execOp, h1, Op.unary, Op.intBits, bitOp], .v _ _⟩
inductive ConvR (S : St) : TD → TD → PV → List Nat → PV → Prop
 | int {d : TD} {k k' : IntKind} {n : Int} : ConvR S d (.int k) (.v (.int k' n)) [] (.v (.int k (k.wrap n)))
 | str {d : TD} {l : List UInt8} : ConvR S d .str (sV l) [] (sV l)
def TD.desc : TD → Option TypeDesc
 | .bool => some .bool
 | .int k => some (.int k)
 | .str => some .string
 | .slice e => some (.slice e)
 | .ptr e => some (.pointer e)
 | .array n e => some (.array n e)
 | .map k e => some (.map k e)
 | _ => none
theorem und_any (hT : TOk P T) {t : TypeId} {ti : TI} (h : look T t = some ti) : ∃ d, P.underlying t = some d ∧ ti.d = TD.of P d := by
 obtain ⟨info, desc, _, h2, h3, _⟩ := hT.get h
 exact ⟨desc, h2, h3⟩
theorem F_convert [Globs P] (hT : TOk P T) (hγ : γ = true) {s t : TypeId} {x : Operand} {p q : PV} {rn : List Nat} {si ti : TI} {sd td : TD} (hx : OpdO γ S x p) (hs : look T s = some si) (_ : si.d = sd) (hl : look T t = some ti) (htd : ti.d = td) (h : ConvR S sd td p rn q) :
  FStep P ⟨dst, .convert s t x, ty, pos, aft, g⟩ S rn ⟨q, []⟩ := by
 refine FStep.val fun fr S' L a w ht hn hR => ?_
 have h1 := hx.rep hγ hR (ht x (by simp [Op.operands]))
 obtain ⟨d, hd, _⟩ := und_any hT hs
 cases h with
 | int =>
  have h1 := h1.inv_v
  exact ⟨_, by simp [execOp, h1, convert, run_underlying hd, run_underlying (und_int hT hl htd), Conv.intToInt], .v _ _⟩
 | str =>
  have h1 := h1.inv_v
  refine ⟨_, ?_, .v _ _⟩
  have h2 := und_str hT hl htd
  simp only [execOp, Sem.run_bind, convert, run_underlying hd, run_underlying h2, Result.andThen_ok, h1]
  cases d <;> rfl
inductive LenR (S : St) : TD → PV → List Nat → Int → Prop
 | str {l : List UInt8} : LenR S .str (sV l) [] l.length
 | sl {e : TypeId} {nl : Bool} {sz : Nat} {es : List PV} : LenR S (.slice e) (.sl nl sz es) [] es.length
 | osl {e : TypeId} {o off len n sz : Nat} {isnil : Bool} {es : List PV} : S.obj o = some (.arr sz isnil es) → Side (n = es.length) → LenR S (.slice e) (.osl o off len n) [o] len
 | nil {e : TypeId} : LenR S (.slice e) nilS [] 0
theorem F_len [Globs P] (hT : TOk P T) (hγ : γ = true) {t : TypeId} {x : Operand} {p : PV} {n : Int} {rn : List Nat} {ti : TI} {td : TD} (hx : OpdO γ S x p) (hl : look T t = some ti) (htd : ti.d = td) (h : LenR S td p rn n) :
  FStep P ⟨dst, .call { callee := .builtin .len, args := #[x], argTypes := #[t] }, ty, pos, aft, g⟩ S rn ⟨iV n, []⟩ := by
 refine FStep.val fun fr S' L a w ht hn hR => ?_
 have h1 := hx.rep hγ hR (ht x (by simp [Op.operands, Call.operands]))
 have key : ∀ v m, a.eval x = v → (Builtin.len_ #[t] ty #[v]).run P w = .ok (goInt m) w → (execOp a.eval ⟨dst, .call { callee := .builtin .len, args := #[x], argTypes := #[t] }, ty, pos, aft, g⟩).run P w = .ok (.value (goInt m)) w := by
  intro v m hv hr
  simp only [execOp, resolve, Sem.run_bind, Sem.run_pure, Result.andThen_ok, invoke, builtin]
  simp [hv, hr]
 cases h with
 | str =>
  rename_i l
  have h1 := h1.inv_v
  exact ⟨_, key _ l.length h1 (by simp [Builtin.len_, run_underlying (und_str hT hl htd)]; rfl), .v _ _⟩
 | sl =>
  rename_i e nl sz es
  generalize hv : a.eval x = v at h1
  cases h1 with
  | slNil => exact ⟨_, key _ 0 hv (by simp [Builtin.len_, run_underlying (und_slice hT hl htd)]), .v _ _⟩
  | slE => exact ⟨_, key _ 0 hv (by simp [Builtin.len_, run_underlying (und_slice hT hl htd)]), .v _ _⟩
  | sl k1 k2 k3 => exact ⟨_, key _ es.length hv (by simp [Builtin.len_, run_underlying (und_slice hT hl htd), k1]), .v _ _⟩
 | osl ho hs =>
  rename_i e o off len n sz isnil es
  obtain ⟨base, cap, hl', hcap, _, _, hcells⟩ := hR.arr ((hn _ (by simp)).trans ho)
  obtain ⟨s1, s2⟩ := h1.osl_at hl' hs
  cases base with
  | none =>
   simp only at hcells
   have h0 : len = 0 := by omega
   subst h0
   exact ⟨_, key _ 0 s2 (by simp [Builtin.len_, run_underlying (und_slice hT hl htd)]), .v _ _⟩
  | some bo =>
   obtain ⟨ad, c, hv, _⟩ := s2
   exact ⟨_, key _ len hv (by simp [Builtin.len_, run_underlying (und_slice hT hl htd)]), .v _ _⟩
 | nil =>
  have h1 := h1.inv_v
  exact ⟨_, key _ 0 h1 (by simp [Builtin.len_, run_underlying (und_slice hT hl htd)]), .v _ _⟩
theorem F_makeFunc [Globs P] (hγ : γ = true) {fn : Fn} {xs ys : Array Operand} {ps qs : List PV} (hx : OpdsO γ S xs.toList ps) (hy : OpdsO γ S ys.toList qs) : FStep P ⟨dst, .makeFunc fn xs ys, ty, pos, aft, g⟩ S [] ⟨.clo fn ps qs, []⟩ := by
 refine FStep.val fun fr S' L a w ht hn hR => ?_
 have h1 := hx.rep hγ hR (fun x hm => ht x (by simp [Op.operands]; exact .inl (Array.mem_toList_iff.1 hm)))
 have h2 := hy.rep hγ hR (fun x hm => ht x (by simp [Op.operands]; exact .inr (Array.mem_toList_iff.1 hm)))
 refine ⟨_, rfl, ?_⟩
 have := Rep.clo (fn := fn) h1 h2
 rw [← Array.toList_map, ← Array.toList_map, Array.toArray_toList, Array.toArray_toList] at this
 exact this
theorem F_extract [Globs P] (hγ : γ = true) {x : Operand} {i : Nat} {ps : List PV} {p : PV} (hx : OpdO γ S x (.tup ps)) (hp : nth ps i = some p) : FStep P ⟨dst, .extract x i, ty, pos, aft, g⟩ S [] ⟨p, []⟩ := by
 refine FStep.val fun fr S' L a w ht hn hR => ?_
 have h1 := hx.rep hγ hR (ht x (by simp [Op.operands]))
 rw [nth_eq] at hp
 generalize hv : a.eval x = v at h1
 cases h1 with
 | tup h1 =>
  obtain ⟨y, k1, k2⟩ := repL_get h1 _ _ hp
  exact ⟨y, by simp [execOp, hv, Instr.extract, k1], k2⟩
inductive PartR (cs : List PV) (off : Nat) : Option Nat → PV → Prop
 | one {c : PV} : nth cs off = some c → PartR cs off none c
 | agg {m : Nat} {ds es : List PV} : DropR off cs ds → TakeR m ds es → PartR cs off (some m) (.agg es)
theorem F_field [Globs P] (hT : TOk P T) (hγ : γ = true) {s f ft sz off : Nat} {x : Operand} {cs : List PV} {q : PV} {ti fi : TI} {fs : List (Nat × Nat × TypeId)} {ag : Option Nat} (hx : OpdO γ S x (.agg cs)) (hl : look T s = some ti) (hd : ti.d = .struct fs)
  (hf : fs[f]? = some (off, sz, ft)) (hz : Nat.beq sz 0 = false) (hlf : look T ft = some fi) (hag : fi.agg = ag) (h : PartR cs off ag q) : FStep P ⟨dst, .field s x f, ty, pos, aft, g⟩ S [] ⟨q, []⟩ := by
 subst hag
 have hz' : sz ≠ 0 := fun e => by subst e; simp at hz
 refine FStep.val fun fr S' L a w ht hn hR => ?_
 have h1 := hx.rep hγ hR (ht x (by simp [Op.operands]))
 obtain ⟨fields, fld, k1, k2, k3, k4, k5⟩ := und_field hT hl hd hf hz'
 subst k5
 obtain ⟨d, e1, e2, e3⟩ := agg_spec hT hlf
 generalize hv : a.eval x = v at h1
 cases h1 with
 | agg h1 =>
  rename_i vs
  generalize hag : fi.agg = ag at h e2 e3
  cases h with
  | one hc =>
   rw [nth_eq] at hc
   obtain ⟨y, g1, g2⟩ := repL_get h1 _ _ hc
   exact ⟨y, by simp [execOp, hv, Instr.field, run_underlying k1, k2, asAgg, part, isAgg_none e1 e2, k3, g1], g2⟩
  | agg hd' ht' =>
   rename_i m ds es
   obtain ⟨t1, t2, t3⟩ := ht'.eq
   obtain ⟨d1, d2⟩ := hd'.eq
   have hm := e3 m rfl
   refine ⟨.agg ((vs.drop off).take m).toArray, ?_, .agg ?_⟩
   ·simp [execOp, hv, Instr.field, run_underlying k1, k2, asAgg, part, isAgg_some e1 e2, k3, size_of hT hlf, ← hm]
   ·refine repL_of_get ?_ (fun j c hc => ?_)
    ·rw [t3, List.length_take, List.length_drop, ← repL_length h1]
     rw [d1, List.length_drop] at t2; omega
    ·rw [t1, List.getElem?_take] at hc
     split at hc
     ·rename_i hjm
      rw [d1, List.getElem?_drop] at hc
      obtain ⟨y, g1, g2⟩ := repL_get h1 _ _ hc
      exact ⟨y, by rw [List.getElem?_take, if_pos hjm, List.getElem?_drop]; exact g1, g2⟩
     ·simp at hc
theorem F_index [Globs P] (hT : TOk P T) (hγ : γ = true) {t : TypeId} {x y : Operand} {l : List UInt8} {k : IntKind} {i : Int} {ti : TI} (hx : OpdO γ S x (sV l)) (hy : OpdO γ S y (.v (.int k i))) (hl : look T t = some ti) (hd : ti.d = .str) (hs : Side (0 ≤ i ∧ i < l.length)) :
  FStep P ⟨dst, .index t x y, ty, pos, aft, g⟩ S [] ⟨.v (.int .u8 ((l.getD i.toNat 0).toNat : Int)), []⟩ := by
 refine FStep.val fun fr S' L a w ht hn hR => ?_
 have h1 := (hx.rep hγ hR (ht x (by simp [Op.operands]))).inv_v
 have h2 := (hy.rep hγ hR (ht y (by simp [Op.operands]))).inv_v
 have hs' : 0 ≤ i ∧ i < l.length := hs
 have hlt : i.toNat < l.length := by omega
 have hg : (⟨⟨l⟩⟩ : ByteArray)[i.toNat]? = some (l.getD i.toNat 0) := by
  have hsz : i.toNat < (⟨⟨l⟩⟩ : ByteArray).size := hlt
  rw [getElem?_pos (⟨⟨l⟩⟩ : ByteArray) i.toNat hsz]
  simp only [List.getD_eq_getElem?_getD, List.getElem?_eq_getElem hlt, Option.getD_some]
  rfl
 exact ⟨_, by simp [execOp, h1, h2, Instr.index, asIntOf, run_underlying (und_str hT hl hd), hs'.1, hg], .v _ _⟩
inductive OptI (γ : Bool) (S : St) : Option Operand → Option Int → Prop
 | none : OptI γ S none none
 | some {x : Operand} {k : IntKind} {i : Int} : OpdO γ S x (.v (.int k i)) → OptI γ S (some x) (some i)
def loOf : Option Int → Nat
 | none => 0
 | some i => i.toNat
def hiOf (n : Nat) : Option Int → Nat
 | none => n
 | some i => i.toNat
structure boundsOk (n : Nat) (lo hi : Option Int) : Prop where
 up : ∀ i, hi = some i → 0 ≤ i ∧ i ≤ n
 low : ∀ i, lo = some i → 0 ≤ i ∧ i.toNat ≤ hiOf n hi
theorem run_sliceBound {v : Value} {k : IntKind} {i : Int} {y : Nat} {code : BoundsCode} (hv : v = .int k i) (h : 0 ≤ i ∧ i ≤ y) : (Instr.sliceBound v y code).run P w = .ok i.toNat w := by
 simp [Instr.sliceBound, hv, asIntOf, h]
theorem run_sliceBounds (isSlice : Bool) (len cap n : Nat) {lo hi : Option Operand} {lo' hi' : Option Int} (hγ : γ = true) (h1 : OptI γ S lo lo') (h2 : OptI γ S hi hi') (hlen : len = n) (hcap : n ≤ cap) (hR : R fr S' L a w)
  (hto : ∀ x, lo = some x → ∀ t, x = .tmp t → S'.get t = S.get t) (hti : ∀ x, hi = some x → ∀ t, x = .tmp t → S'.get t = S.get t) (hb : boundsOk n lo' hi') :
  (Instr.sliceBounds isSlice len cap (lo.map a.eval) (hi.map a.eval) none).run P w = .ok (loOf lo', hiOf n hi', cap) w := by
 subst hlen
 obtain ⟨hb1, hb2⟩ := hb
 cases h2 with
 | none =>
  cases h1 with
  | none => simp [Instr.sliceBounds, loOf, hiOf]
  | some hx =>
   have e1 := (hx.rep hγ hR (hto _ rfl)).inv_v
   have h3 := hb2 _ rfl
   simp only [hiOf] at h3
   have h4 := run_sliceBound (P := P) (w := w) (y := len) (code := .sliceB) e1 ⟨h3.1, by omega⟩
   simp only [Instr.sliceBounds, Option.map_some, Option.map_none, Sem.run_bind, Sem.run_pure, Result.andThen_ok, Option.isSome_none, Bool.false_eq_true, if_false, h4]
   rfl
 | some hy =>
  have e2 := (hy.rep hγ hR (hti _ rfl)).inv_v
  have h4 := hb1 _ rfl
  have h5 := run_sliceBound (P := P) (w := w) (y := cap) (code := if isSlice then .sliceAcap else .sliceAlen) e2 ⟨h4.1, by omega⟩
  cases h1 with
  | none =>
   simp only [Instr.sliceBounds, Option.map_some, Option.map_none, Sem.run_bind, Sem.run_pure, Result.andThen_ok, h5]
   rfl
  | some hx =>
   have e1 := (hx.rep hγ hR (hto _ rfl)).inv_v
   have h3 := hb2 _ rfl
   simp only [hiOf] at h3
   rename_i j _ _ i
   have h6 := run_sliceBound (P := P) (w := w) (y := j.toNat) (code := .sliceB) e1 ⟨h3.1, by omega⟩
   simp only [Instr.sliceBounds, Option.map_some, Sem.run_bind, Sem.run_pure, Result.andThen_ok, h5, Option.isSome_none, Bool.false_eq_true, if_false, h6]
   rfl
inductive SliceR (T : Tbl) (S : St) (lo hi : Option Int) : TD → PV → List Nat → PV → Prop
 | str {l : List UInt8} : Side (boundsOk l.length lo hi) → SliceR T S lo hi .str (sV l) [] (sV ((l.take (hiOf l.length hi)).drop (loOf lo)))
 | sl {e : TypeId} {nl : Bool} {sz : Nat} {es : List PV} {ei : TI} : look T e = some ei → ei.size = sz → Side (boundsOk es.length lo hi) → SliceR T S lo hi (.slice e) (.sl nl sz es) [] (.sl nl sz ((es.take (hiOf es.length hi)).drop (loOf lo)))
 | osl {e : TypeId} {o off len n sz : Nat} {isnil : Bool} {es : List PV} {ei : TI} : S.obj o = some (.arr sz isnil es) → look T e = some ei → ei.size = sz → Side (n = es.length) → Side (boundsOk len lo hi) →
   SliceR T S lo hi (.slice e) (.osl o off len n) [o] (.osl o (off + loOf lo) (hiOf len hi - loOf lo) n)
 | nil {e : TypeId} {ei : TI} : look T e = some ei → Side (boundsOk 0 lo hi) → SliceR T S lo hi (.slice e) nilS [] nilS
theorem Rows.sub {F : Nat → Prop} {sz b : Nat} : ∀ {es : List PV} {off : Nat} (h l : Nat), Rows w F sz es b off → Rows w F sz ((es.take h).drop l) b (off + l * sz)
 | es, off, 0, l, _ => by simp; exact .nil _ _ _
 | [], off, h + 1, l, _ => by simp; exact .nil _ _ _
 | e :: es, off, h + 1, 0, hr => by
  cases hr with
  | cons h1 h2 h3 =>
   simp only [List.take_succ_cons, List.drop_zero, Nat.zero_mul, Nat.add_zero]
   refine .cons h1 h2 ?_
   have := h3.sub h 0
   simpa using this
 | e :: es, off, h + 1, l + 1, hr => by
  cases hr with
  | cons h1 h2 h3 =>
   simp only [List.take_succ_cons, List.drop_succ_cons]
   have := h3.sub h l
   rw [Nat.succ_mul, show off + (l * sz + sz) = off + sz + l * sz by omega]
   exact this
theorem elemSize (hT : TOk P T) {e : TypeId} {ei : TI} (h : look T e = some ei) (w : World) : (sizeOf e).run P w = .ok ei.size w := size_of hT h w
theorem F_slice [Globs P] (hT : TOk P T) (hγ : γ = true) {t : TypeId} {x : Operand} {lo hi : Option Operand} {lo' hi' : Option Int} {p q : PV} {rn : List Nat} {ti : TI} {td : TD} (hx : OpdO γ S x p) (h1 : OptI γ S lo lo') (h2 : OptI γ S hi hi') (hl : look T t = some ti) (htd : ti.d = td)
  (h : SliceR T S lo' hi' td p rn q) : FStep P ⟨dst, .slice t x lo hi none, ty, pos, aft, g⟩ S rn ⟨q, []⟩ := by
 refine FStep.val fun fr S' L a w ht hn hR => ?_
 have hr := hx.rep hγ hR (ht x (by simp [Op.operands]))
 have hto : ∀ y, lo = some y → ∀ t, y = .tmp t → S'.get t = S.get t := fun y hy => ht y (by subst hy; simp [Op.operands])
 have hti : ∀ y, hi = some y → ∀ t, y = .tmp t → S'.get t = S.get t := fun y hy => ht y (by subst hy; simp [Op.operands])
 cases h with
 | str hb =>
  rename_i l
  have hv := hr.inv_v
  have hbs := run_sliceBounds (P := P) false l.length l.length l.length hγ h1 h2 rfl (Nat.le_refl _) hR hto hti hb
  have hsize : (⟨⟨l⟩⟩ : ByteArray).size = l.length := rfl
  have hext : (⟨⟨l⟩⟩ : ByteArray).extract (loOf lo') (hiOf l.length hi') = ⟨⟨(l.take (hiOf l.length hi')).drop (loOf lo')⟩⟩ := by
   apply ByteArray.ext
   simp [ByteArray.data_extract, List.drop_take]
  exact ⟨_, by simp [execOp, Instr.sliceAt, Instr.slice, hv, run_underlying (und_str hT hl htd), hsize, hbs, hext], .v _ _⟩
 | sl he hes' hb =>
  rename_i e nl sz es ei
  generalize hv : a.eval x = v at hr
  cases hr with
  | slNil =>
   have hb' : boundsOk 0 lo' hi' := hb
   have hbs := run_sliceBounds (P := P) true 0 0 0 hγ h1 h2 rfl (Nat.le_refl _) hR hto hti hb
   have e1 : hiOf 0 hi' = 0 := by
    unfold hiOf; cases hi' with
    | none => rfl
    | some i => have := hb'.1 i rfl; simp only; omega
   have e2 : loOf lo' = 0 := by
    unfold loOf; cases lo' with
    | none => rfl
    | some i => have := (hb'.2 i rfl).2; rw [e1] at this; simp only; omega
   rw [e1, e2] at hbs
   refine ⟨.slice none 0 0, by simp [execOp, Instr.sliceAt, Instr.slice, hv, run_underlying (und_slice hT hl htd), hbs, elemSize hT he], ?_⟩
   have e3 : (([] : List PV).take (hiOf ([] : List PV).length hi')).drop (loOf lo') = [] := by simp
   rw [e3]
   exact .slNil _ _
  | slE _ _ ad =>
   have hb' : boundsOk 0 lo' hi' := hb
   have hbs := run_sliceBounds (P := P) true 0 0 0 hγ h1 h2 rfl (Nat.le_refl _) hR hto hti hb
   have e1 : hiOf 0 hi' = 0 := by
    unfold hiOf; cases hi' with
    | none => rfl
    | some i => have := hb'.1 i rfl; simp only; omega
   have e2 : loOf lo' = 0 := by
    unfold loOf; cases lo' with
    | none => rfl
    | some i => have := (hb'.2 i rfl).2; rw [e1] at this; simp only; omega
   rw [e1, e2] at hbs
   refine ⟨.slice (some ad) 0 0, by simp [execOp, Instr.sliceAt, Instr.slice, hv, run_underlying (und_slice hT hl htd), hbs, elemSize hT he, Addr.add], ?_⟩
   have e3 : (([] : List PV).take (hiOf ([] : List PV).length hi')).drop (loOf lo') = [] := by simp
   rw [e3]
   exact .slE _ _ _
  | sl k1 k2 k3 =>
   rename_i b off n cap
   subst k1
   have hbs := run_sliceBounds (P := P) true es.length cap es.length hγ h1 h2 rfl k2 hR hto hti hb
   have hb' : boundsOk es.length lo' hi' := hb
   have hlen : hiOf es.length hi' ≤ es.length := by
    unfold hiOf; cases hi' with
    | none => exact Nat.le_refl _
    | some i => have := hb'.1 i rfl; simp only; omega
   have hle : loOf lo' ≤ hiOf es.length hi' := by
    unfold loOf; cases lo' with
    | none => exact Nat.zero_le _
    | some i => exact (hb'.2 i rfl).2
   by_cases hm : cap = loOf lo'
   ·subst hm
    refine ⟨.slice (some ⟨b, off, none⟩) (hiOf es.length hi' - loOf lo') (loOf lo' - loOf lo'), ?_, .sl ?_ ?_ ?_⟩
    ·simp [execOp, Instr.sliceAt, Instr.slice, hv, run_underlying (und_slice hT hl htd), hbs, elemSize hT he]
    ·simp; omega
    ·omega
    ·have h0 : (es.take (hiOf es.length hi')).drop (loOf lo') = [] := by
      apply List.eq_nil_of_length_eq_zero; simp; omega
     rw [h0]; exact .nil _ _ _
   ·refine ⟨.slice (some ⟨b, off + loOf lo' * sz, none⟩) (hiOf es.length hi' - loOf lo') (cap - loOf lo'), ?_, .sl ?_ ?_ (k3.sub _ _)⟩
    ·simp [execOp, Instr.sliceAt, Instr.slice, hv, run_underlying (und_slice hT hl htd), hbs, elemSize hT he, hm, Addr.add_lit, hes']
    ·simp; omega
    ·omega
 | osl ho he hes' hs hb =>
  rename_i e o off len n sz isnil es ei
  obtain ⟨base, cap, hl', hcap, hnil, _, hcells⟩ := hR.arr ((hn _ (by simp)).trans ho)
  obtain ⟨s1, s2⟩ := hr.osl_at hl' hs
  have hs' : n = es.length := hs
  have hb' : boundsOk len lo' hi' := hb
  have hlen : hiOf len hi' ≤ len := by
   unfold hiOf; cases hi' with
   | none => exact Nat.le_refl _
   | some i => have := hb'.1 i rfl; simp only; omega
  have hle : loOf lo' ≤ hiOf len hi' := by
   unfold loOf; cases lo' with
   | none => exact Nat.zero_le _
   | some i => exact (hb'.2 i rfl).2
  cases base with
  | none =>
   simp only at hcells
   have h0 : len = 0 := by omega
   subst h0
   have hbs := run_sliceBounds (P := P) true 0 0 0 hγ h1 h2 rfl (Nat.le_refl _) hR hto hti hb
   have e1 : hiOf 0 hi' = 0 := by omega
   have e2 : loOf lo' = 0 := by omega
   rw [e1, e2] at hbs
   refine ⟨.slice none 0 0, ?_, .osl hl' ⟨by omega, fun _ => ⟨by omega, rfl⟩⟩ ⟨_, _, _, rfl⟩⟩
   simp [execOp, Instr.sliceAt, Instr.slice, s2, run_underlying (und_slice hT hl htd), hbs, elemSize hT he]
  | some bo =>
   obtain ⟨b, off0⟩ := bo
   obtain ⟨ad, c, hv, hlc, hpos, hq0, hcc⟩ := s2
   have hbs := run_sliceBounds (P := P) true len c len hγ h1 h2 rfl hlc hR hto hti hb
   refine ⟨.slice (some ⟨b, if c = loOf lo' then ad else ad + loOf lo' * ei.size, none⟩) (hiOf len hi' - loOf lo') (c - loOf lo'), ?_, .osl hl' ⟨by omega, fun _ => ⟨by omega, _, _, rfl, by omega, fun hp => ?_, fun h0 => ?_, by omega⟩⟩ ⟨_, _, _, rfl⟩⟩
   ·simp [execOp, Instr.sliceAt, Instr.slice, hv, run_underlying (und_slice hT hl htd), hbs, elemSize hT he]
    split <;> simp [Addr.add_lit]
   ·have := hpos (by omega)
    subst this
    rw [if_neg (by omega), hes', Nat.add_mul, Nat.add_assoc]
   ·have e1 : loOf lo' = 0 := by omega
    have e2 : off = 0 := by omega
    have := hq0 e2
    subst this
    simp [e1]
 | nil he hb =>
  rename_i e ei
  have hv := hr.inv_v
  have hb' : boundsOk 0 lo' hi' := hb
  have hbs := run_sliceBounds (P := P) true 0 0 0 hγ h1 h2 rfl (Nat.le_refl _) hR hto hti hb
  have e1 : hiOf 0 hi' = 0 := by
   unfold hiOf; cases hi' with
   | none => rfl
   | some i => have := hb'.1 i rfl; simp only; omega
  have e2 : loOf lo' = 0 := by
   unfold loOf; cases lo' with
   | none => rfl
   | some i => have := (hb'.2 i rfl).2; rw [e1] at this; simp only; omega
  rw [e1, e2] at hbs
  exact ⟨.slice none 0 0, by simp [execOp, Instr.sliceAt, Instr.slice, hv, run_underlying (und_slice hT hl htd), hbs, elemSize hT he], .v _ _⟩
end
end Go.Sym
