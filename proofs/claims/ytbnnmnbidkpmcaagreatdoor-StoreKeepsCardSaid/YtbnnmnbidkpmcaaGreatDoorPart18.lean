/- A part of the proof: SymZC, SymZD, SymZE, GSha, GTbl, SymZF. -/
import Derived.Test.YtbnnmnbidkpmcaaGreatDoorPart17
import Derived.Test.YtbnnmnbidkpmcaaGreatDoorProg
import Derived.Lib.ItoaNum
import Derived.KernelRfl
set_option linter.unusedVariables false
set_option linter.unusedSimpArgs false
namespace Go.Sym
open Go.RowKit
@[reducible] def wV (x : BitVec 32) : PV := .v (.int .u32 (x.toNat : Int))
theorem oslE {o off l l' n n' : Nat} (h1 : l = l') (h2 : n = n') : PV.osl o off l n = PV.osl o off l' n' := by rw [h1, h2]
theorem arrE {sz : Nat} {b : Bool} {es es' : List PV} (h : es = es') : SObj.arr sz b es = SObj.arr sz b es' := by rw [h]
def isInt (ob : Obj) : Prop := ∃ m cs e f, ob = .cells cs e f ∧ cs[0]? = some (.int .i64 m)
def rowIs (zs : List Value) (ob : Obj) : Prop := ∃ e f, ob = .cells zs.toArray e f
theorem HoldsAt.row {P : Program} [Globs P] {g i : Nat} {zs : List Value} {v : Value} (h : (g, rowIs zs) ∈ Globs.gl P) (hi : zs[i]? = some v) : HoldsAt P g i v :=
 ⟨_, h, fun _ ⟨e, f, h⟩ => ⟨_, e, f, h, by simpa using hi⟩⟩
section
variable {T : Tbl} {S : St} {t : TypeId}
theorem wrap32 (n : Nat) : IntKind.wrap .u32 (n : Int) = ((BitVec.ofNat 32 n).toNat : Int) := by
 simp [IntKind.wrap, IntKind.bits, IntKind.signed]
theorem bit32 (op : BinOp) (x y : BitVec 32) : bitOp op .u32 (x.toNat : Int) (y.toNat : Int) = (((match op with | .and => x &&& y | .or => x ||| y | .xor => x ^^^ y | _ => x &&& ~~~y) : BitVec 32).toNat : Int) := by
 have hx : BitVec.ofInt (IntKind.bits .u32) (x.toNat : Int) = x := by simp [IntKind.bits]
 have hy : BitVec.ofInt (IntKind.bits .u32) (y.toNat : Int) = y := by simp [IntKind.bits]
 have hw : ∀ z : BitVec 32, IntKind.wrap .u32 (z.toNat : Int) = (z.toNat : Int) := fun z => by rw [wrap32]; simp
 cases op <;> simp only [bitOp, hx, hy] <;> exact hw _
theorem binW_add {a b : BitVec 32} : BinR T S t .add (wV a) (wV b) [] (wV (a + b)) := by
 have h : IntKind.wrap .u32 ((a.toNat : Int) + (b.toNat : Int)) = ((a + b).toNat : Int) := by
  rw [← Int.natCast_add, wrap32]; simp [BitVec.toNat_add]
 show BinR T S t .add _ _ [] (.v (.int .u32 ((a + b).toNat : Int)))
 rw [← h]; exact .addI
theorem binW_and {a b : BitVec 32} : BinR T S t .and (wV a) (wV b) [] (wV (a &&& b)) := by
 show BinR T S t .and _ _ [] (.v (.int .u32 ((a &&& b).toNat : Int)))
 rw [← bit32 .and]; exact .andI
theorem binW_or {a b : BitVec 32} : BinR T S t .or (wV a) (wV b) [] (wV (a ||| b)) := by
 show BinR T S t .or _ _ [] (.v (.int .u32 ((a ||| b).toNat : Int)))
 rw [← bit32 .or]; exact .orI
theorem binW_xor {a b : BitVec 32} : BinR T S t .xor (wV a) (wV b) [] (wV (a ^^^ b)) := by
 show BinR T S t .xor _ _ [] (.v (.int .u32 ((a ^^^ b).toNat : Int)))
 rw [← bit32 .xor]; exact .xorI
theorem binW_andNot {a b : BitVec 32} : BinR T S t .andNot (wV a) (wV b) [] (wV (a &&& ~~~b)) := by
 show BinR T S t .andNot _ _ [] (.v (.int .u32 ((a &&& ~~~b).toNat : Int)))
 rw [← bit32 .andNot]; exact .andNotI
theorem shlN (a : BitVec 32) (n : Nat) : IntKind.wrap .u32 ((a.toNat : Int) * 2 ^ (min n 32)) = ((a <<< n).toNat : Int) := by
 have h : ((a.toNat : Int) * 2 ^ (min n 32)) = ((a.toNat * 2 ^ (min n 32) : Nat) : Int) := by simp
 rw [h, wrap32]
 congr 1
 by_cases hn : n ≤ 32
 ·rw [Nat.min_eq_left hn]; simp [BitVec.toNat_shiftLeft, Nat.shiftLeft_eq]
 ·rw [Nat.min_eq_right (by omega)]
  have h1 : a <<< n = 0#32 := by
   apply BitVec.eq_of_toNat_eq
   simp only [BitVec.toNat_shiftLeft, Nat.shiftLeft_eq, BitVec.toNat_ofNat]
   obtain ⟨m, rfl⟩ : ∃ m, n = 32 + m := ⟨n - 32, by omega⟩
   rw [Nat.pow_add, ← Nat.mul_assoc, Nat.mul_right_comm]
   simp
  rw [h1]; simp
theorem shrN (a : BitVec 32) (n : Nat) : Int.fdiv (a.toNat : Int) (2 ^ (min n 32)) = ((a >>> n).toNat : Int) := by
 have h : Int.fdiv (a.toNat : Int) (2 ^ (min n 32)) = ((a.toNat / 2 ^ (min n 32) : Nat) : Int) := by
  rw [Int.fdiv_eq_ediv_of_nonneg _ (by exact_mod_cast Nat.zero_le _)]; simp
 rw [h, BitVec.toNat_ushiftRight, Nat.shiftRight_eq_div_pow]
 congr 1
 by_cases hn : n ≤ 32
 ·rw [Nat.min_eq_left hn]
 ·rw [Nat.min_eq_right (by omega)]
  have := a.isLt
  rw [Nat.div_eq_of_lt this, Nat.div_eq_of_lt (Nat.lt_of_lt_of_le this (Nat.pow_le_pow_right (by omega) (by omega)))]
theorem binW_shlG {a : BitVec 32} {k' : IntKind} {b : Int} (hb : Side (0 ≤ b)) : BinR T S t .shl (wV a) (.v (.int k' b)) [] (wV (a <<< b.toNat)) := by
 show BinR T S t .shl _ _ [] (.v (.int .u32 ((a <<< b.toNat).toNat : Int)))
 rw [← shlN]; exact .shlI hb
theorem binW_shrG {a : BitVec 32} {k' : IntKind} {b : Int} (hb : Side (0 ≤ b)) : BinR T S t .shr (wV a) (.v (.int k' b)) [] (wV (a >>> b.toNat)) := by
 show BinR T S t .shr _ _ [] (.v (.int .u32 ((a >>> b.toNat).toNat : Int)))
 rw [← shrN]; exact .shrI hb
theorem binW_shl {a : BitVec 32} {k' : IntKind} {n : Nat} : BinR T S t .shl (wV a) (.v (.int k' (@OfNat.ofNat Int n instOfNat))) [] (wV (a <<< n)) := by
 have h := binW_shlG (T := T) (S := S) (t := t) (a := a) (k' := k') (b := (n : Int)) (Int.natCast_nonneg n)
 exact h
theorem binW_shr {a : BitVec 32} {k' : IntKind} {n : Nat} : BinR T S t .shr (wV a) (.v (.int k' (@OfNat.ofNat Int n instOfNat))) [] (wV (a >>> n)) := by
 have h := binW_shrG (T := T) (S := S) (t := t) (a := a) (k' := k') (b := (n : Int)) (Int.natCast_nonneg n)
 exact h
theorem binW_shrC {a : BitVec 32} {k' : IntKind} {n : Nat} : BinR T S t .shr (wV a) (.v (.int k' (n : Int))) [] (wV (a >>> n)) :=
 binW_shrG (T := T) (S := S) (t := t) (a := a) (k' := k') (b := (n : Int)) (Int.natCast_nonneg n)
theorem convW8 {d : TD} {b : UInt8} : ConvR S d (.int .u32) (.v (.int .u8 (b.toNat : Int))) [] (wV (BitVec.ofNat 32 b.toNat)) := by
 show ConvR S d (.int .u32) _ [] (.v (.int .u32 ((BitVec.ofNat 32 b.toNat).toNat : Int)))
 rw [← wrap32]; exact .int
theorem convW_u8 {d : TD} {x : BitVec 32} : ConvR S d (.int .u8) (wV x) [] (u8V (UInt8.ofNat x.toNat)) := by
 have h : IntKind.wrap .u8 (x.toNat : Int) = ((UInt8.ofNat x.toNat).toNat : Int) := by simp [IntKind.wrap, IntKind.bits, IntKind.signed]
 show ConvR S d (.int .u8) _ [] (.v (.int .u8 ((UInt8.ofNat x.toNat).toNat : Int)))
 rw [← h]; exact .int
end
end Go.Sym
namespace Go.Sym
open Go.RowKit
section
variable {P : Program} {T : Tbl} {fr : Fr} {S S' : St} {L : LMap} {a : Act} {w : World} {γ : Bool}
variable {dst : Option Tmp} {ty : Nat} {pos : String} {aft : Array Edge} {g : Option (Nat × Bool)}
inductive NilR (S : St) : PV → List Nat → Prop
 | ref {o k : Nat} {cs : List PV} : S.obj o = some (.box cs) → NilR S (.ref o k) [o]
 | eref {o i k n sz : Nat} {isnil : Bool} {es : List PV} : S.obj o = some (.arr sz isnil es) → Side (n = es.length) → NilR S (.eref o i k n) [o]
 | rp {cs : List PV} : NilR S (.rp cs) []
 | v {ad : Addr} : NilR S (.v (.pointer (some ad))) []
theorem F_nilCheck [Globs P] (hγ : γ = true) {x : Operand} {p : PV} {rn : List Nat} (hx : OpdO γ S x p) (h : NilR S p rn) : FStep P ⟨dst, .nilCheck x, ty, pos, aft, g⟩ S rn ⟨p, []⟩ := by
 refine FStep.val fun fr S' L a w ht hn hR => ?_
 have h1 := hx.rep hγ hR (ht x (by simp [Op.operands]))
 have key : ∀ ad, a.eval x = .pointer (some ad) → ∃ y, (execOp a.eval ⟨dst, .nilCheck x, ty, pos, aft, g⟩).run P w = .ok (.value y) w ∧ Rep w (fr.F L) L p y := fun ad had => by
  refine ⟨_, ?_, h1⟩
  simp [execOp, had]
 cases h with
 | ref ho =>
  obtain ⟨b, off, hl', _⟩ := hR.box ((hn _ (by simp)).trans ho)
  exact key _ (h1.ref_at hl')
 | eref ho hs =>
  obtain ⟨base, cap, hl', _, _, hsz, hcells⟩ := hR.arr ((hn _ (by simp)).trans ho)
  obtain ⟨b, off, _, _, hv⟩ := h1.eref_at hl' hs
  exact key _ hv
 | rp =>
  generalize hv : a.eval x = v at h1
  cases h1 with
  | rp _ => exact key _ hv
 | v => exact key _ h1.inv_v
theorem F_buildArr [Globs P] (hT : TOk P T) (hγ : γ = true) {t e m sz : Nat} {parts : Array (Nat × Operand)} {ps es : List PV} {ti ei : TI} {zs : List Value} (hx : OpdsO γ S (parts.toList.map (·.2)) ps)
  (hl : look T t = some ti) (hd : ti.d = .array m e) (hle : look T e = some ei) (hsz : ei.size = sz) (hz0 : Nat.beq sz 0 = false) (hz : ti.zero = some zs) (h : FillP ((List.range m).map fun i => (i * sz, sz, e)) (parts.toList.map (·.1)) ps (zs.map .v) es) :
  FStep P ⟨dst, .build t parts, ty, pos, aft, g⟩ S [] ⟨.agg es, []⟩ := by
 refine FStep.val fun fr S' L a w ht hn hR => ?_
 have h1 := hx.rep hγ hR (fun x hm t e => ht x (by
  simp only [Op.operands]
  exact Array.mem_toList_iff.1 (by simpa using hm)) t e)
 have hu := und_array hT hl hd
 obtain ⟨z, hzr, hzc, _⟩ := zero_of hT hl hz w
 have hso : (sizeOf e).run P w = .ok sz w := by rw [size_of hT hle, hsz]
 have hs0 : sz ≠ 0 := fun e => by subst e; simp at hz0
 obtain ⟨out, k1, k2⟩ := fill_sound (pl := fun i => some (i * sz, sz)) (fun i off s ft hi _ => by
  rw [List.getElem?_map] at hi
  cases hg : (List.range m)[i]? with
  | none => rw [hg] at hi; simp at hi
  | some j =>
   rw [hg] at hi
   simp only [Option.map_some, Option.some.injEq, Prod.mk.injEq] at hi
   obtain ⟨g1, g2, _⟩ := hi
   have hji : j = i := by
    have := List.getElem?_eq_some_iff.1 hg
    obtain ⟨q1, q2⟩ := this
    simpa using q2.symm
   subst hji; rw [g1, g2]) (fun x hx' => by
  obtain ⟨j, _, rfl⟩ := List.mem_map.1 hx'
  exact hs0) (cells := zs.toArray) h h1 (by simpa using repL_map_v w (fr.F L) L zs)
 refine ⟨.agg out, ?_, by simpa using Rep.agg k2⟩
 have hpl : (parts.map fun x => (x.1, a.eval x.2)).toList = (parts.toList.map (·.1)).zip ((parts.toList.map (·.2)).map a.eval) := by
  rw [Array.toList_map, List.map_map, List.zip_map']
  rfl
 simp only [execOp, Instr.build, Sem.run_bind, hzr, Result.andThen_ok, run_underlying hu, hso, hzc, hpl, k1]
 simp
theorem unW_not {a : BitVec 32} : UnR .xor (wV a) (wV (~~~a)) := by
 have h : bitOp .xor .u32 (if IntKind.signed .u32 then -1 else IntKind.max .u32) (a.toNat : Int) = ((~~~a).toNat : Int) := by
  have e : (if IntKind.signed .u32 then -1 else IntKind.max .u32) = ((BitVec.allOnes 32).toNat : Int) := by decide
  rw [e, bit32]
  exact congrArg (fun z : BitVec 32 => (z.toNat : Int)) ((BitVec.xor_comm _ _).trans BitVec.xor_allOnes)
 show UnR .xor _ (.v (.int .u32 ((~~~a).toNat : Int)))
 rw [← h]; exact .xor
theorem SpliceR.zero : ∀ {vs cs : List PV}, vs.length ≤ cs.length → SpliceR 0 vs cs (vs ++ cs.drop vs.length)
 | [], cs, _ => by simpa using SpliceR.done
 | v :: vs, [], h => by simp at h
 | v :: vs, c :: cs, h => by simpa using SpliceR.here (SpliceR.zero (vs := vs) (cs := cs) (by simpa using h))
theorem SpliceR.mk : ∀ {k : Nat} {vs cs : List PV}, k + vs.length ≤ cs.length → SpliceR k vs cs (cs.take k ++ vs ++ cs.drop (k + vs.length))
 | 0, vs, cs, h => by simpa using SpliceR.zero (vs := vs) (cs := cs) (by simpa using h)
 | k + 1, vs, [], h => by simp at h
 | k + 1, vs, c :: cs, h => by
  have := SpliceR.skip (c := c) (SpliceR.mk (k := k) (vs := vs) (cs := cs) (by simp at h; omega))
  rw [show k + 1 + vs.length = k + vs.length + 1 by omega]
  simpa using this
theorem spliceSet {k : Nat} {cs : List PV} {v : PV} (h : k < cs.length) : SpliceR k [v] cs (cs.set k v) := by
 have h1 := SpliceR.mk (k := k) (vs := [v]) (cs := cs) (by simp; omega)
 have h2 : cs.take k ++ [v] ++ cs.drop (k + [v].length) = cs.set k v := by
  rw [List.set_eq_take_append_cons_drop, if_pos h]; simp
 rw [h2] at h1; exact h1
theorem nth_map {α : Type} [Inhabited α] (f : α → PV) (l : List α) (k : Nat) (h : k < l.length) : nth (l.map f) k = some (f l[k]!) := by
 rw [nth_eq, List.getElem?_map, List.getElem?_eq_getElem h, getElem!_pos l k h]; rfl
end
end Go.Sym
namespace Go.Sym
open Go.RowKit
section
variable {P : Program} {T : Tbl} {fr : Fr} {S S' : St} {L : LMap} {a : Act} {w : World} {γ : Bool}
variable {dst : Option Tmp} {ty : Nat} {pos : String} {aft : Array Edge} {g : Option (Nat × Bool)}
theorem convL_plain {S : St} {σ : List (Nat × Nat)} {B : List Nat} {ps : List PV} (h : plainL ps = true) : ConvL S σ B ps ps := conv_plain_all.2 ps h
theorem usesOnlyL_map {α : Type} {ns : List Nat} (f : α → PV) (h : ∀ x, usesOnly ns (f x) = true) : ∀ l : List α, usesOnlyL ns (l.map f) = true
 | [] => rfl
 | x :: r => by simp only [List.map_cons, usesOnlyL, h x, usesOnlyL_map f h r, Bool.and_self]
theorem cellsOkL_map {α : Type} (f : α → PV) (h : ∀ x, cellOk (f x) = true) (l : List α) : cellsOkL (l.map f) = true := by
 unfold cellsOkL
 rw [List.all_eq_true]
 intro c hc
 obtain ⟨x, _, rfl⟩ := List.mem_map.1 hc
 exact h x
theorem beqLen {cs : List PV} {n : Nat} (h : cs.length = n) : Nat.beq cs.length n = true := by rw [h]; exact Nat.beq_refl n
theorem TakeR.mk : ∀ {n : Nat} {cs : List PV}, n ≤ cs.length → TakeR n cs (cs.take n)
 | 0, cs, _ => by simpa using TakeR.zero
 | n + 1, [], h => by simp at h
 | n + 1, c :: cs, h => by simpa using TakeR.succ (c := c) (TakeR.mk (n := n) (cs := cs) (by simpa using h))
theorem takeHd {α : Type} (f : α → PV) {n : Nat} {h w : List α} (hh : h.length = n) : TakeR n ((h ++ w).map f) (h.map f) := by
 have := TakeR.mk (n := n) (cs := (h ++ w).map f) (by simp; omega)
 rw [← List.map_take, List.take_left' hh] at this
 exact this
theorem DropR.mk : ∀ {n : Nat} {cs : List PV}, n ≤ cs.length → DropR n cs (cs.drop n)
 | 0, cs, _ => by simpa using DropR.zero
 | n + 1, [], h => by simp at h
 | n + 1, c :: cs, h => by simpa using DropR.succ (c := c) (DropR.mk (n := n) (cs := cs) (by simpa using h))
theorem Ret0 {rv : List ResultVar} {cs objs' : List SObj} (h : ResV T S rv []) (ho : Objs S (seqN PN objs'.length) cs) (hc : SConvs S (retσ objs'.length []) [] cs objs') : Returns T S rv (.tup []) objs' [] :=
 ⟨[], .tup [], [], [], cs, [], h, .none, ho, .nil, rfl, rfl, rfl, hc, .nil, .tup .nil⟩
theorem Ret1o {rv : List ResultVar} {cs objs' : List SObj} {p r : PV} (h : ResV T S rv [p]) (ho : Objs S (seqN PN objs'.length) cs) (hc : SConvs S (retσ objs'.length []) [] cs objs') (hr : ConvP S (retσ objs'.length []) [] p r) : Returns T S rv r objs' [] :=
 ⟨[p], p, [], [], cs, [], h, .one, ho, .nil, rfl, rfl, rfl, hc, .nil, hr⟩
theorem F_indexArr [Globs P] (hT : TOk P T) (hγ : γ = true) {t e m sz : Nat} {x y : Operand} {cs : List PV} {q : PV} {ti ei : TI} {ag : Option Nat} {k : IntKind} {i : Int} (hx : OpdO γ S x (.agg cs)) (hy : OpdO γ S y (.v (.int k i)))
  (hl : look T t = some ti) (hd : ti.d = .array m e) (hle : look T e = some ei) (hsz : ei.size = sz) (hag : ei.agg = ag) (hb : Side (0 ≤ i ∧ i < m)) (h : PartR cs (i.toNat * sz) ag q) : FStep P ⟨dst, .index t x y, ty, pos, aft, g⟩ S [] ⟨q, []⟩ := by
 subst hag
 refine FStep.val fun fr S' L a w ht hn hR => ?_
 have h1 := hx.rep hγ hR (ht x (by simp [Op.operands]))
 have hi := (hy.rep hγ hR (ht y (by simp [Op.operands]))).inv_v
 have hu := und_array hT hl hd
 have hso : (sizeOf e).run P w = .ok sz w := by rw [size_of hT hle, hsz]
 have hb' : 0 ≤ i ∧ i < (m : Int) := hb
 obtain ⟨d, hud, had, hsa⟩ := agg_spec hT hle
 generalize hev : a.eval x = v at h1
 cases h1 with
 | @agg _ cs' vs hrep =>
  have key : ∀ v', (part e vs.toArray (i.toNat * sz)).run P w = .ok v' w → (execOp a.eval ⟨dst, .index t x y, ty, pos, aft, g⟩).run P w = .ok (.value v') w := fun v' hv' => by
   simp only [execOp, Instr.index, Sem.run_bind, hi, asIntOf, Sem.run_pure, Result.andThen_ok, run_underlying hu, hev, if_pos hb', hso, hv']
  generalize hag : ei.agg = ag at h
  cases h with
  | one hc =>
   rw [nth_eq] at hc
   obtain ⟨y', k1, k2⟩ := repL_get hrep _ _ hc
   refine ⟨y', key _ ?_, k2⟩
   rw [hag] at had
   have k1' : vs.toArray[i.toNat * sz]? = some y' := by simpa using k1
   simp only [part, Sem.run_bind, isAgg_none hud had, Result.andThen_ok]
   simp [k1']
  | agg hdr htr =>
   rename_i mm ds es
   obtain ⟨e1, e2, e3⟩ := htr.eq
   obtain ⟨d1, d2⟩ := hdr.eq
   rw [hag] at had
   have hm := hsa _ hag
   refine ⟨.agg ((vs.drop (i.toNat * sz)).take mm).toArray, key _ ?_, .agg ?_⟩
   ·simp [part, isAgg_some hud had, hso, ← hsz, hm]
   ·refine repL_of_get ?_ (fun j c hc => ?_)
    ·rw [e3, List.length_take, List.length_drop, ← repL_length hrep]
     rw [d1, List.length_drop] at e2; omega
    ·rw [e1, List.getElem?_take] at hc
     split at hc
     ·rename_i hjm
      rw [d1, List.getElem?_drop] at hc
      obtain ⟨y, g1, g2⟩ := repL_get hrep _ _ hc
      exact ⟨y, by rw [List.getElem?_take, if_pos hjm, List.getElem?_drop]; exact g1, g2⟩
     ·simp at hc
theorem spliceAll {vs cs : List PV} (h : vs.length = cs.length) : SpliceR 0 vs cs vs := by
 have h1 := SpliceR.zero (vs := vs) (cs := cs) (by omega)
 rw [h, List.drop_length, List.append_nil] at h1
 exact h1
end
end Go.Sym
namespace Go.Graft
abbrev Str := List UInt8
abbrev W32 := BitVec 32
def rotr (x : W32) (n : Nat) : W32 := (x >>> n) ||| (x <<< (32 - n))
def sg0 (x : W32) : W32 := rotr x 7 ^^^ rotr x 18 ^^^ (x >>> 3)
def sg1 (x : W32) : W32 := rotr x 17 ^^^ rotr x 19 ^^^ (x >>> 10)
def bs0 (x : W32) : W32 := rotr x 2 ^^^ rotr x 13 ^^^ rotr x 22
def bs1 (x : W32) : W32 := rotr x 6 ^^^ rotr x 11 ^^^ rotr x 25
def be32 (a b c d : UInt8) : W32 := BitVec.ofNat 32 (((a.toNat * 256 + b.toNat) * 256 + c.toNat) * 256 + d.toNat)
def wd (b : Str) (i : Nat) : W32 := be32 b[4 * i]! b[4 * i + 1]! b[4 * i + 2]! b[4 * i + 3]!
def wsStep (ws : List W32) : List W32 := ws ++ [sg1 ws[ws.length - 2]! + ws[ws.length - 7]! + sg0 ws[ws.length - 15]! + ws[ws.length - 16]!]
def wsN (b : Str) : Nat → List W32
 | 0 => (List.range 16).map (wd b)
 | k + 1 => wsStep (wsN b k)
def rnd (k w : W32) : List W32 → List W32
 | [a, b, c, d, e, f, g, h] =>
  let x := h + bs1 e + ((e &&& f) ^^^ (~~~e &&& g)) + k + w
  let y := bs0 a + ((a &&& b) ^^^ (a &&& c) ^^^ (b &&& c))
  [x + y, a, b, c, d + x, e, f, g]
 | l => l
def keys : List W32 := [
 0x428a2f98, 0x71374491, 0xb5c0fbcf, 0xe9b5dba5, 0x3956c25b, 0x59f111f1, 0x923f82a4, 0xab1c5ed5,
 0xd807aa98, 0x12835b01, 0x243185be, 0x550c7dc3, 0x72be5d74, 0x80deb1fe, 0x9bdc06a7, 0xc19bf174,
 0xe49b69c1, 0xefbe4786, 0x0fc19dc6, 0x240ca1cc, 0x2de92c6f, 0x4a7484aa, 0x5cb0a9dc, 0x76f988da,
 0x983e5152, 0xa831c66d, 0xb00327c8, 0xbf597fc7, 0xc6e00bf3, 0xd5a79147, 0x06ca6351, 0x14292967,
 0x27b70a85, 0x2e1b2138, 0x4d2c6dfc, 0x53380d13, 0x650a7354, 0x766a0abb, 0x81c2c92e, 0x92722c85,
 0xa2bfe8a1, 0xa81a664b, 0xc24b8b70, 0xc76c51a3, 0xd192e819, 0xd6990624, 0xf40e3585, 0x106aa070,
 0x19a4c116, 0x1e376c08, 0x2748774c, 0x34b0bcb5, 0x391c0cb3, 0x4ed8aa4a, 0x5b9cca4f, 0x682e6ff3,
 0x748f82ee, 0x78a5636f, 0x84c87814, 0x8cc70208, 0x90befffa, 0xa4506ceb, 0xbef9a3f7, 0xc67178f2]
def first : List W32 := [0x6a09e667, 0xbb67ae85, 0x3c6ef372, 0xa54ff53a, 0x510e527f, 0x9b05688c, 0x1f83d9ab, 0x5be0cd19]
def rdN (ws : List W32) (h : List W32) : Nat → List W32
 | 0 => h
 | t + 1 => rnd keys[t]! ws[t]! (rdN ws h t)
def comp (h : List W32) (b : Str) : List W32 := List.zipWith (· + ·) h (rdN (wsN b 48) h 64)
def foldB (l : Str) (h : List W32) : Nat → List W32
 | 0 => h
 | k + 1 => comp (foldB l h k) ((l.drop (64 * k)).take 64)
def be64 (n : Nat) : Str := (List.range 8).map fun i => UInt8.ofNat (n / 256 ^ (7 - i))
def zpad (n : Nat) : Nat := (119 - n % 64) % 64
def tailB (n : Nat) : Str := 128 :: (List.replicate (zpad n) 0 ++ be64 (8 * n))
def padB (s : Str) : Str := s ++ tailB s.length
def bytes32 (x : W32) : Str := [UInt8.ofNat (x >>> 24).toNat, UInt8.ofNat (x >>> 16).toNat, UInt8.ofNat (x >>> 8).toNat, UInt8.ofNat x.toNat]
def sha (s : Str) : Str := (foldB (padB s) first ((padB s).length / 64)).flatMap bytes32
def hexDigit (n : Nat) : UInt8 := if n < 10 then UInt8.ofNat (48 + n) else UInt8.ofNat (87 + n)
def hexOf (raw : Str) : Str := raw.flatMap fun b => [hexDigit (b.toNat / 16), hexDigit (b.toNat % 16)]
def idOf (s : Str) : Str := hexOf ((sha s).take 20)
end Go.Graft
namespace Go.Proofs.Tryz
open Go Go.Sym
@[reducible] def tbl : Tbl := [
 (2, ⟨.int .i64, 1, 8, some [(.int .i64 0)], true, false⟩),
 (3, ⟨.int .i64, 1, 8, some [(.int .i64 0)], true, false⟩),
 (4, ⟨.bool, 1, 1, some [(.bool false)], true, false⟩),
 (5, ⟨.int .u8, 1, 1, some [(.int .u8 0)], true, false⟩),
 (9, ⟨.str, 1, 16, some [(.string ⟨⟨[]⟩⟩)], true, false⟩),
 (12, ⟨.int .u64, 1, 8, some [(.int .u64 0)], true, false⟩),
 (20, ⟨.iface, 1, 16, some [.nilIface], true, false⟩),
 (21, ⟨.int .i32, 1, 4, some [(.int .i32 0)], true, false⟩),
 (22, ⟨.slice 39, 1, 24, some [(.slice none 0 0)], true, false⟩),
 (23, ⟨.struct [(0, 1, 22)], 1, 24, some [(.slice none 0 0)], true, false⟩),
 (24, ⟨.struct [(0, 1, 22)], 1, 24, some [(.slice none 0 0)], true, false⟩),
 (27, ⟨.slice 29, 1, 24, some [(.slice none 0 0)], true, false⟩),
 (28, ⟨.struct [(0, 1, 3), (1, 1, 9)], 2, 24, some [(.int .i64 0), (.string ⟨⟨[]⟩⟩)], true, false⟩),
 (29, ⟨.struct [(0, 1, 3), (1, 1, 9)], 2, 24, some [(.int .i64 0), (.string ⟨⟨[]⟩⟩)], true, false⟩),
 (30, ⟨.int .i64, 1, 8, some [(.int .i64 0)], true, false⟩),
 (38, ⟨.struct [(0, 1, 9), (1, 1, 3), (2, 1, 9)], 3, 40, some [(.string ⟨⟨[]⟩⟩), (.int .i64 0), (.string ⟨⟨[]⟩⟩)], true, false⟩),
 (39, ⟨.struct [(0, 1, 9), (1, 1, 3), (2, 1, 9)], 3, 40, some [(.string ⟨⟨[]⟩⟩), (.int .i64 0), (.string ⟨⟨[]⟩⟩)], true, false⟩),
 (41, ⟨.slice 9, 1, 24, some [(.slice none 0 0)], true, false⟩),
 (47, ⟨.slice 41, 1, 24, some [(.slice none 0 0)], true, false⟩),
 (60, ⟨.struct [(0, 1, 9), (1, 1, 9), (2, 1, 3), (3, 1, 3)], 4, 48, some [(.string ⟨⟨[]⟩⟩), (.string ⟨⟨[]⟩⟩), (.int .i64 0), (.int .i64 0)], true, false⟩),
 (61, ⟨.struct [(0, 1, 9), (1, 1, 9), (2, 1, 3), (3, 1, 3)], 4, 48, some [(.string ⟨⟨[]⟩⟩), (.string ⟨⟨[]⟩⟩), (.int .i64 0), (.int .i64 0)], true, false⟩),
 (63, ⟨.struct [(0, 1, 9), (1, 1, 41), (2, 4, 61), (6, 4, 61), (10, 1, 9)], 11, 152, some [(.string ⟨⟨[]⟩⟩), (.slice none 0 0), (.string ⟨⟨[]⟩⟩), (.string ⟨⟨[]⟩⟩), (.int .i64 0), (.int .i64 0), (.string ⟨⟨[]⟩⟩), (.string ⟨⟨[]⟩⟩), (.int .i64 0), (.int .i64 0), (.string ⟨⟨[]⟩⟩)], true, false⟩),
 (64, ⟨.struct [(0, 1, 9), (1, 1, 41), (2, 4, 61), (6, 4, 61), (10, 1, 9)], 11, 152, some [(.string ⟨⟨[]⟩⟩), (.slice none 0 0), (.string ⟨⟨[]⟩⟩), (.string ⟨⟨[]⟩⟩), (.int .i64 0), (.int .i64 0), (.string ⟨⟨[]⟩⟩), (.string ⟨⟨[]⟩⟩), (.int .i64 0), (.int .i64 0), (.string ⟨⟨[]⟩⟩)], true, false⟩),
 (67, ⟨.struct [(0, 1, 24)], 1, 24, some [(.slice none 0 0)], true, false⟩),
 (68, ⟨.struct [(0, 1, 24)], 1, 24, some [(.slice none 0 0)], true, false⟩),
 (76, ⟨.slice 100, 1, 24, some [(.slice none 0 0)], true, false⟩),
 (81, ⟨.struct [(0, 1, 9), (1, 1, 3), (2, 1, 9), (3, 4, 61), (7, 1, 9)], 8, 104, some [(.string ⟨⟨[]⟩⟩), (.int .i64 0), (.string ⟨⟨[]⟩⟩), (.string ⟨⟨[]⟩⟩), (.string ⟨⟨[]⟩⟩), (.int .i64 0), (.int .i64 0), (.string ⟨⟨[]⟩⟩)], true, false⟩),
 (82, ⟨.struct [(0, 1, 9), (1, 1, 3), (2, 1, 9), (3, 4, 61), (7, 1, 9)], 8, 104, some [(.string ⟨⟨[]⟩⟩), (.int .i64 0), (.string ⟨⟨[]⟩⟩), (.string ⟨⟨[]⟩⟩), (.string ⟨⟨[]⟩⟩), (.int .i64 0), (.int .i64 0), (.string ⟨⟨[]⟩⟩)], true, false⟩),
 (85, ⟨.map 9 4, 1, 8, some [(.map none)], true, false⟩),
 (97, ⟨.slice 76, 1, 24, some [(.slice none 0 0)], true, false⟩),
 (98, ⟨.slice 3, 1, 24, some [(.slice none 0 0)], true, false⟩),
 (99, ⟨.struct [(0, 1, 3), (1, 1, 9), (2, 1, 9)], 3, 40, some [(.int .i64 0), (.string ⟨⟨[]⟩⟩), (.string ⟨⟨[]⟩⟩)], true, false⟩),
 (100, ⟨.struct [(0, 1, 3), (1, 1, 9), (2, 1, 9)], 3, 40, some [(.int .i64 0), (.string ⟨⟨[]⟩⟩), (.string ⟨⟨[]⟩⟩)], true, false⟩),
 (123, ⟨.slice 5, 1, 24, some [(.slice none 0 0)], true, false⟩),
 (128, ⟨.ptr 130, 1, 8, some [(.pointer none)], true, false⟩),
 (129, ⟨.struct [(0, 1, 9), (1, 1, 30)], 2, 24, some [(.string ⟨⟨[]⟩⟩), (.int .i64 0)], true, false⟩),
 (130, ⟨.struct [(0, 1, 9), (1, 1, 30)], 2, 24, some [(.string ⟨⟨[]⟩⟩), (.int .i64 0)], true, false⟩),
 (134, ⟨.slice 98, 1, 24, some [(.slice none 0 0)], true, false⟩),
 (135, ⟨.slice 4, 1, 24, some [(.slice none 0 0)], true, false⟩),
 (136, ⟨.int .u64, 1, 8, some [(.int .u64 0)], true, false⟩),
 (137, ⟨.int .u64, 1, 8, some [(.int .u64 0)], true, false⟩),
 (138, ⟨.slice 142, 1, 24, some [(.slice none 0 0)], true, false⟩),
 (142, ⟨.int .u32, 1, 4, some [(.int .u32 0)], true, false⟩),
 (151, ⟨.struct [(0, 1, 3), (1, 1, 9)], 2, 24, some [(.int .i64 0), (.string ⟨⟨[]⟩⟩)], true, false⟩),
 (152, ⟨.struct [(0, 1, 3), (1, 1, 9)], 2, 24, some [(.int .i64 0), (.string ⟨⟨[]⟩⟩)], true, false⟩),
 (153, ⟨.array 4 152, 8, 96, some [(.int .i64 0), (.string ⟨⟨[]⟩⟩), (.int .i64 0), (.string ⟨⟨[]⟩⟩), (.int .i64 0), (.string ⟨⟨[]⟩⟩), (.int .i64 0), (.string ⟨⟨[]⟩⟩)], true, false⟩),
 (157, ⟨.map 9 3, 1, 8, some [(.map none)], true, false⟩),
 (158, ⟨.array 8 142, 8, 32, some [(.int .u32 0), (.int .u32 0), (.int .u32 0), (.int .u32 0), (.int .u32 0), (.int .u32 0), (.int .u32 0), (.int .u32 0)], true, false⟩),
 (159, ⟨.array 64 142, 64, 256, some (List.replicate 64 (.int .u32 0)), true, false⟩),
 (160, ⟨.struct [(0, 8, 158), (8, 64, 159)], 72, 288, some (List.replicate 72 (.int .u32 0)), true, false⟩),
 (161, ⟨.struct [(0, 8, 158), (8, 64, 159)], 72, 288, some (List.replicate 72 (.int .u32 0)), true, false⟩),
 (168, ⟨.int .i64, 1, 8, some [(.int .i64 0)], true, false⟩),
 (178, ⟨.ptr 161, 1, 8, some [(.pointer none)], true, false⟩),
 (179, ⟨.ptr 159, 1, 8, some [(.pointer none)], true, false⟩),
 (181, ⟨.int .u64, 1, 8, some [(.int .u64 0)], true, false⟩),
 (185, ⟨.ptr 3, 1, 8, some [(.pointer none)], true, false⟩),
 (187, ⟨.array 24 5, 24, 24, some (List.replicate 24 (.int .u8 0)), true, false⟩),
 (194, ⟨.iface, 1, 16, some [.nilIface], false, false⟩),
 (195, ⟨.iface, 1, 16, some [.nilIface], false, false⟩),
 (198, ⟨.ptr 181, 1, 8, some [(.pointer none)], true, false⟩),
 (202, ⟨.array 20 137, 20, 160, some (List.replicate 20 (.int .u64 0)), true, false⟩),
 (203, ⟨.array 65 5, 65, 65, some (List.replicate 65 (.int .u8 0)), true, false⟩),
 (210, ⟨.array 256 4, 256, 256, some (List.replicate 256 (.bool false)), true, false⟩),
 (211, ⟨.array 256 4, 256, 256, some (List.replicate 256 (.bool false)), true, false⟩),
 (216, ⟨.int .i64, 1, 8, some [(.int .i64 0)], true, false⟩),
 (219, ⟨.ptr 231, 1, 8, some [(.pointer none)], true, false⟩),
 (223, ⟨.ptr 211, 1, 8, some [(.pointer none)], true, false⟩),
 (224, ⟨.array 32 5, 32, 32, some (List.replicate 32 (.int .u8 0)), true, false⟩),
 (225, ⟨.array 64 5, 64, 64, some (List.replicate 64 (.int .u8 0)), true, false⟩),
 (230, ⟨.struct [(0, 1, 9), (1, 1, 9), (2, 1, 195)], 3, 48, some [(.string ⟨⟨[]⟩⟩), (.string ⟨⟨[]⟩⟩), .nilIface], false, false⟩),
 (231, ⟨.struct [(0, 1, 9), (1, 1, 9), (2, 1, 195)], 3, 48, some [(.string ⟨⟨[]⟩⟩), (.string ⟨⟨[]⟩⟩), .nilIface], false, false⟩),
 (234, ⟨.ptr 5, 1, 8, some [(.pointer none)], true, false⟩),
 (235, ⟨.ptr 237, 1, 8, some [(.pointer none)], true, false⟩),
 (236, ⟨.struct [(0, 1, 9)], 1, 16, some [(.string ⟨⟨[]⟩⟩)], true, false⟩),
 (237, ⟨.struct [(0, 1, 9)], 1, 16, some [(.string ⟨⟨[]⟩⟩)], true, false⟩),
 (238, ⟨.array 256 5, 256, 256, some (List.replicate 256 (.int .u8 0)), true, false⟩),
 (239, ⟨.struct [(0, 1, 5), (1, 1, 5)], 2, 2, some [(.int .u8 0), (.int .u8 0)], true, false⟩),
 (240, ⟨.struct [(0, 1, 5), (1, 1, 5)], 2, 2, some [(.int .u8 0), (.int .u8 0)], true, false⟩),
 (241, ⟨.array 16 240, 32, 32, some (List.replicate 32 (.int .u8 0)), true, false⟩)]
theorem tblEq : mkTbl Tryz.prog [2, 3, 4, 5, 9, 12, 20, 21, 22, 23, 24, 27, 28, 29, 30, 38, 39, 41, 47, 60, 61, 63, 64, 67, 68, 76, 81, 82, 85, 97, 98, 99, 100, 123, 128, 129, 130, 134, 135, 136, 137, 138, 142, 151, 152, 153, 157, 158, 159, 160, 161, 168, 178, 179, 181, 185, 187, 194, 195, 198, 202, 203, 210, 211, 216, 219, 223, 224, 225, 230, 231, 234, 235, 236, 237, 238, 239, 240, 241] = tbl := by kernel_rfl
theorem tblOk : TOk Tryz.prog tbl := tblEq ▸ mkTbl_ok Tryz.prog _
theorem mixed : Tryz.prog.follows .mixedOrders = true := by kernel_rfl
abbrev gMax : Nat := 0
abbrev gTable : Nat := 1
abbrev gPow : Nat := 2
instance globs : Globs Tryz.prog := ⟨[(gMax, isInt), (gTable, rowIs (Go.Graft.keys.map fun k => .int .u32 (k.toNat : Int))), (gPow, rowIs (Lib.pow10Tab.map fun z => .int .u64 z))]⟩
theorem table_at (i : Nat) (h : i < 64) : HoldsAt Tryz.prog gTable i (.int .u32 ((Go.Graft.keys[i]!).toNat : Int)) :=
 HoldsAt.row (.tail _ (.head _)) (by
  have hl : i < Go.Graft.keys.length := h
  rw [List.getElem?_map, List.getElem?_eq_getElem hl, getElem!_pos Go.Graft.keys i hl]; rfl)
end Go.Proofs.Tryz
namespace Go.Sym
theorem uses_plain_all {ns : List Nat} : (∀ p, plain p = true → usesOnly ns p = true) ∧ (∀ ps, plainL ps = true → usesOnlyL ns ps = true) := by
 have c : ∀ p, plain p = true → usesOnly ns p = true := by
  intro p
  refine @PV.rec (fun p => plain p = true → usesOnly ns p = true) (fun ps => plainL ps = true → usesOnlyL ns ps = true) ?_ ?_ ?_ ?_ ?_ ?_ ?_ ?_ ?_ ?_ ?_ ?_ ?_ ?_ ?_ ?_ p
  ·exact fun x _ => rfl
  ·exact fun cs ih h => by simp only [usesOnly]; exact ih (by simpa [plain] using h)
  ·exact fun cs ih h => by simp only [usesOnly]; exact ih (by simpa [plain] using h)
  ·exact fun nl sz es _ _ => rfl
  ·exact fun cs _ _ => rfl
  ·exact fun o off h => by simp [plain] at h
  ·exact fun o i off n h => by simp [plain] at h
  ·exact fun o off len n h => by simp [plain] at h
  ·exact fun fn f cc i1 i2 h => by simp [plain] at h; simp only [usesOnly, i1 h.1, i2 h.2, Bool.and_self]
  ·exact fun t x ih h => by simp only [usesOnly]; exact ih (by simpa [plain] using h)
  ·exact fun b x _ h => by simp [plain] at h
  ·exact fun _ => rfl
  ·exact fun o h => by simp [plain] at h
  ·exact fun _ _ _ _ _ => rfl
  ·exact fun _ => rfl
  ·exact fun c cs i1 i2 h => by simp [plainL] at h; simp only [usesOnlyL, i1 h.1, i2 h.2, Bool.and_self]
 refine ⟨c, fun ps => ?_⟩
 induction ps with
 | nil => exact fun _ => rfl
 | cons d ds ih => exact fun h => by simp [plainL] at h; simp only [usesOnlyL, c d h.1, ih h.2, Bool.and_self]
theorem usesOnlyL_plain {ns : List Nat} {ps : List PV} (h : plainL ps = true) : usesOnlyL ns ps = true := uses_plain_all.2 ps h
end Go.Sym
