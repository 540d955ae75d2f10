/- A part of the proof: SymD. -/
import Derived.Laws.StructEq
import Derived.WideLaws
import Derived.LaidEql
import Derived.IntWalk
import Derived.Test.YteailifhgfijgaaGreatDoorPart02
set_option linter.unusedVariables false
set_option linter.unusedSimpArgs false
namespace Go.Sym
open Go.RowKit
def Side (p : Prop) : Prop := p
theorem Side.mk {p : Prop} (h : p) : Side p := h
inductive TD where
 | bool | int (k : IntKind) | str | slice (e : TypeId) | ptr (e : TypeId) | array (n : Nat) (e : TypeId)
 | struct (fs : List (Nat × Nat × TypeId)) | func | iface | map (k e : TypeId) | other
 deriving DecidableEq
structure TI where
 d : TD
 size : Nat
 bytes : Nat
 zero : Option (List Value)
 plainEq : Bool
 held : Bool
def TD.of (P : Program) : TypeDesc → TD
 | .bool => .bool
 | .int k => .int k
 | .string => .str
 | .slice e => .slice e
 | .pointer e => .ptr e
 | .array n e => .array n e
 | .struct fs => .struct (fs.toList.map fun f => (f.offset, if f.name = "_" then 0 else P.cellsOf f.type, f.type))
 | .func .. => .func
 | .interface _ => .iface
 | .map k e => .map k e
 | _ => .other
def mkTI (P : Program) (t : TypeId) : Option TI :=
 match P.info? t, P.underlying t with
 | some i, some d => some { d := TD.of P d, size := i.size, bytes := i.bytes, zero := i.zero.map (·.cells.toList), plainEq := !P.eqGuardType P.depth t, held := P.stoodInHeld t }
 | _, _ => none
abbrev Tbl := List (Nat × TI)
def TOk (P : Program) (T : Tbl) : Prop := ∀ t i, look T t = some i → mkTI P t = some i
def mkTbl (P : Program) (ts : List Nat) : Tbl := ts.filterMap fun t => (mkTI P t).map (t, ·)
theorem mkTbl_ok (P : Program) : ∀ ts : List Nat, TOk P (mkTbl P ts)
 | [], t, i, h => by simp [mkTbl, look] at h
 | u :: r, t, i, h => by
  unfold mkTbl at h
  rw [List.filterMap_cons] at h
  cases hu : mkTI P u with
  | none => simp only [hu, Option.map_none] at h; exact mkTbl_ok P r t i h
  | some j =>
   simp only [hu, Option.map_some] at h
   rw [look_cons] at h
   split at h
   ·rename_i e; subst e; simp at h; subst h; exact hu
   ·exact mkTbl_ok P r t i h
section
variable {P : Program} {T : Tbl}
theorem TOk.get (h : TOk P T) {t : TypeId} {i : TI} (hl : look T t = some i) : ∃ info desc, P.info? t = some info ∧ P.underlying t = some desc ∧ i.d = TD.of P desc ∧ i.size = info.size ∧ i.bytes = info.bytes ∧
  i.zero = info.zero.map (·.cells.toList) ∧ i.plainEq = !P.eqGuardType P.depth t ∧ i.held = P.stoodInHeld t := by
 have := h t i hl
 unfold mkTI at this
 split at this
 ·rename_i info desc h1 h2
  simp at this
  subst this
  exact ⟨info, desc, h1, h2, rfl, rfl, rfl, rfl, rfl, rfl⟩
 ·simp at this
end
@[reducible] def bV (b : Bool) : PV := .v (.bool b)
@[reducible] def iV (n : Int) : PV := .v (.int .i64 n)
@[reducible] def sV (l : List UInt8) : PV := .v (.string ⟨⟨l⟩⟩)
@[reducible] def nilS : PV := .v (.slice none 0 0)
def PV.ofV : Value → PV
 | .agg cs => .agg (cs.toList.map .v)
 | x => .v x
inductive Opd (S : St) : Operand → PV → Prop
 | tmp {t : Nat} {p : PV} : S.get t = some p → Opd S (.tmp t) p
 | const {x : Value} : Opd S (.const x) (PV.ofV x)
 | func {f : FuncId} : Opd S (.func f) (.clo (.func f) [] [])
 | global {g : Nat} : Opd S (.global g) (.v (.pointer (some ⟨g, 0, none⟩)))
inductive OpenR (γ : Bool) : PV → PV → Prop
 | opt {b : Bool} {x : PV} : Side (γ = true → b = true) → OpenR γ (.opt b x) x
 | v {x : Value} : OpenR γ (.v x) (.v x)
 | agg {cs : List PV} : OpenR γ (.agg cs) (.agg cs)
 | tup {cs : List PV} : OpenR γ (.tup cs) (.tup cs)
 | sl {nl : Bool} {sz : Nat} {es : List PV} : OpenR γ (.sl nl sz es) (.sl nl sz es)
 | rp {cs : List PV} : OpenR γ (.rp cs) (.rp cs)
 | ref {o off : Nat} : OpenR γ (.ref o off) (.ref o off)
 | eref {o i off n : Nat} : OpenR γ (.eref o i off n) (.eref o i off n)
 | osl {o off len n : Nat} : OpenR γ (.osl o off len n) (.osl o off len n)
 | clo {fn : Fn} {f c : List PV} : OpenR γ (.clo fn f c) (.clo fn f c)
 | ifc {t : TypeId} {x : PV} : OpenR γ (.ifc t x) (.ifc t x)
 | mref {o : Nat} : OpenR γ (.mref o) (.mref o)
 | mp {nl : Bool} {ks : List Value} {vs : List PV} : OpenR γ (.mp nl ks vs) (.mp nl ks vs)
 | it {g : Nat} {ks : List Value} : OpenR γ (.it g ks) (.it g ks)
 | slf {sz : Nat} {es : List PV} : OpenR γ (.slf sz es) (.slf sz es)
inductive OpdO (γ : Bool) (S : St) (x : Operand) (p : PV) : Prop
 | mk {q : PV} : Opd S x q → OpenR γ q p → OpdO γ S x p
theorem repL_map_v (w : World) (F : Nat → Prop) (L : LMap) : ∀ l : List Value, RepL w F L (l.map .v) l
 | [] => .nil L
 | x :: r => .cons (.v L x) (repL_map_v w F L r)
theorem rep_ofV (w : World) (F : Nat → Prop) (L : LMap) (x : Value) : Rep w F L (PV.ofV x) x := by
 cases x with
 | agg cs => exact .agg (repL_map_v w F L cs.toList)
 | _ => exact .v _ _
section
variable {S S' : St} {fr : Fr} {L : LMap} {a : Act} {w : World} {γ : Bool}
theorem Opd.rep {x : Operand} {p : PV} (h : Opd S x p) (hR : R fr S' L a w) (ht : ∀ t, x = .tmp t → S'.get t = S.get t) : Rep w (fr.F L) L p (a.eval x) := by
 cases h with
 | tmp hg =>
  rename_i t
  obtain ⟨y, hy, hr⟩ := hR.vals t p (by rw [ht t rfl]; exact hg)
  simp only [Act.eval, Array.getD_eq_getD_getElem?, hy, Option.getD_some]
  exact hr
 | const => exact rep_ofV _ _ _ _
 | func => exact Rep.clo (.nil L) (.nil L)
 | global => exact .v _ _
theorem OpenR.rep {q p : PV} (h : OpenR γ q p) (hγ : γ = true) {x : Value} (hr : Rep w (fr.F L) L q x) : Rep w (fr.F L) L p x := by
 cases h with
 | opt hs => cases hr with | opt h1 _ => exact h1 (hs hγ)
 | _ => exact hr
theorem OpdO.rep {x : Operand} {p : PV} (h : OpdO γ S x p) (hγ : γ = true) (hR : R fr S' L a w) (ht : ∀ t, x = .tmp t → S'.get t = S.get t) : Rep w (fr.F L) L p (a.eval x) := by
 cases h with
 | mk h1 h2 => exact h2.rep hγ (h1.rep hR ht)
end
theorem mem_tmps {o : Oper} {x : Operand} (hx : x ∈ o.op.operands) : ∀ t, x = .tmp t → t ∈ o.tmps := by
 rintro t rfl
 unfold Oper.tmps
 rw [List.mem_filterMap]
 exact ⟨_, Array.mem_toList_iff.2 hx, rfl⟩
theorem FStep.val {P : Program} [Globs P] {o : Oper} {S : St} {p : PV} {rn : List Nat}
  (h : ∀ (fr : Fr) (S' : St) (L : LMap) (a : Act) (w : World), (∀ x ∈ o.op.operands, ∀ t, x = .tmp t → S'.get t = S.get t) → (∀ n ∈ rn, S'.obj n = S.obj n) → R fr S' L a w →
   ∃ x, (execOp a.eval o).run P w = .ok (.value x) w ∧ Rep w (fr.F L) L p x) : FStep P o S rn ⟨p, []⟩ := by
 intro fr S' ht hn L a w hR hG Q
 obtain ⟨x, hx, hr⟩ := h fr S' L a w (fun y hy t e => ht t (mem_tmps hy t e)) hn hR
 unfold Oper.wp
 rw [hx, Oper.upon_value]
 exact ⟨x, L, rfl, hR.eqv ⟨fun _ => rfl, fun n => by simp [look]⟩, hr⟩
theorem Rep.inv_v {w : World} {F : Nat → Prop} {L : LMap} {x y : Value} (h : Rep w F L (.v x) y) : y = x := by cases h; rfl
def bitOp (op : BinOp) (k : IntKind) (x y : Int) : Int :=
 let a := BitVec.ofInt k.bits x
 let b := BitVec.ofInt k.bits y
 match op with
 | .and => k.wrap (a &&& b).toNat
 | .or => k.wrap (a ||| b).toNat
 | .xor => k.wrap (a ^^^ b).toNat
 | _ => k.wrap (a &&& ~~~b).toNat
inductive EqCells (T : Tbl) : List (Nat × Nat × TypeId) → List PV → List PV → Bool → Prop
 | nil : EqCells T [] [] [] true
 | int {k : IntKind} {j : Nat} {t : TypeId} {ti : TI} {fs : List (Nat × Nat × TypeId)} {a b : Int} {cs ds : List PV} {r : Bool} :
   look T t = some ti → ti.d = .int k → EqCells T fs cs ds r →
   EqCells T ((j, 1, t) :: fs) (.v (.int k a) :: cs) (.v (.int k b) :: ds) (decide (a = b) && r)
 | str {j : Nat} {t : TypeId} {ti : TI} {fs : List (Nat × Nat × TypeId)} {a b : List UInt8} {cs ds : List PV} {r : Bool} :
   look T t = some ti → ti.d = .str → EqCells T fs cs ds r →
   EqCells T ((j, 1, t) :: fs) (sV a :: cs) (sV b :: ds) (decide (a = b) && r)
 | bool {j : Nat} {t : TypeId} {ti : TI} {fs : List (Nat × Nat × TypeId)} {a b : Bool} {cs ds : List PV} {r : Bool} :
   look T t = some ti → ti.d = .bool → EqCells T fs cs ds r →
   EqCells T ((j, 1, t) :: fs) (bV a :: cs) (bV b :: ds) (decide (a = b) && r)
def inOrder : Nat → List (Nat × Nat × TypeId) → Bool
 | _, [] => true
 | k, (j, _, _) :: r => Nat.beq j k && inOrder (k + 1) r
inductive BinR (T : Tbl) (S : St) (t : TypeId) : BinOp → PV → PV → List Nat → PV → Prop
 | addI64 {a b : Int} : Side (-9223372036854775808 ≤ a + b ∧ a + b ≤ 9223372036854775807) → BinR T S t .add (.v (.int .i64 a)) (.v (.int .i64 b)) [] (.v (.int .i64 (a + b)))
 | subI64 {a b : Int} : Side (-9223372036854775808 ≤ a - b ∧ a - b ≤ 9223372036854775807) → BinR T S t .sub (.v (.int .i64 a)) (.v (.int .i64 b)) [] (.v (.int .i64 (a - b)))
 | mulI64 {a b : Int} : Side (-9223372036854775808 ≤ a * b ∧ a * b ≤ 9223372036854775807) → BinR T S t .mul (.v (.int .i64 a)) (.v (.int .i64 b)) [] (.v (.int .i64 (a * b)))
 | quoI64 {a b : Int} : Side (0 ≤ a ∧ a ≤ 9223372036854775807 ∧ 0 < b) → BinR T S t .quo (.v (.int .i64 a)) (.v (.int .i64 b)) [] (.v (.int .i64 (a / b)))
 | remI64 {a b : Int} : Side (0 ≤ a ∧ a ≤ 9223372036854775807 ∧ 0 < b) → BinR T S t .rem (.v (.int .i64 a)) (.v (.int .i64 b)) [] (.v (.int .i64 (a % b)))
 | addI {k : IntKind} {a b : Int} : BinR T S t .add (.v (.int k a)) (.v (.int k b)) [] (.v (.int k (k.wrap (a + b))))
 | subI {k : IntKind} {a b : Int} : BinR T S t .sub (.v (.int k a)) (.v (.int k b)) [] (.v (.int k (k.wrap (a - b))))
 | mulI {k : IntKind} {a b : Int} : BinR T S t .mul (.v (.int k a)) (.v (.int k b)) [] (.v (.int k (k.wrap (a * b))))
 | quoI {k : IntKind} {a b : Int} : Side (b ≠ 0) → BinR T S t .quo (.v (.int k a)) (.v (.int k b)) [] (.v (.int k (k.wrap (a.tdiv b))))
 | remI {k : IntKind} {a b : Int} : Side (b ≠ 0) → BinR T S t .rem (.v (.int k a)) (.v (.int k b)) [] (.v (.int k (a.tmod b)))
 | andI {k : IntKind} {a b : Int} : BinR T S t .and (.v (.int k a)) (.v (.int k b)) [] (.v (.int k (bitOp .and k a b)))
 | orI {k : IntKind} {a b : Int} : BinR T S t .or (.v (.int k a)) (.v (.int k b)) [] (.v (.int k (bitOp .or k a b)))
 | xorI {k : IntKind} {a b : Int} : BinR T S t .xor (.v (.int k a)) (.v (.int k b)) [] (.v (.int k (bitOp .xor k a b)))
 | andNotI {k : IntKind} {a b : Int} : BinR T S t .andNot (.v (.int k a)) (.v (.int k b)) [] (.v (.int k (bitOp .andNot k a b)))
 | shlI {k k' : IntKind} {a b : Int} : Side (0 ≤ b) → BinR T S t .shl (.v (.int k a)) (.v (.int k' b)) [] (.v (.int k (k.wrap (a * 2 ^ (min b.toNat k.bits)))))
 | shrI {k k' : IntKind} {a b : Int} : Side (0 ≤ b) → BinR T S t .shr (.v (.int k a)) (.v (.int k' b)) [] (.v (.int k (a.fdiv (2 ^ (min b.toNat k.bits)))))
 | eqlI {k : IntKind} {a b : Int} : BinR T S t .eql (.v (.int k a)) (.v (.int k b)) [] (bV (decide (a = b)))
 | neqI {k : IntKind} {a b : Int} : BinR T S t .neq (.v (.int k a)) (.v (.int k b)) [] (bV (!decide (a = b)))
 | lssI {k : IntKind} {a b : Int} : BinR T S t .lss (.v (.int k a)) (.v (.int k b)) [] (bV (decide (a < b)))
 | leqI {k : IntKind} {a b : Int} : BinR T S t .leq (.v (.int k a)) (.v (.int k b)) [] (bV (decide (a ≤ b)))
 | gtrI {k : IntKind} {a b : Int} : BinR T S t .gtr (.v (.int k a)) (.v (.int k b)) [] (bV (decide (b < a)))
 | geqI {k : IntKind} {a b : Int} : BinR T S t .geq (.v (.int k a)) (.v (.int k b)) [] (bV (decide (b ≤ a)))
 | addS {a b : List UInt8} : Side (a.length + b.length ≤ 9223372036854775807) → BinR T S t .add (sV a) (sV b) [] (sV (a ++ b))
 | eqlS {a b : List UInt8} : BinR T S t .eql (sV a) (sV b) [] (bV (decide (a = b)))
 | neqS {a b : List UInt8} : BinR T S t .neq (sV a) (sV b) [] (bV (!decide (a = b)))
 | lssS {a b : List UInt8} : BinR T S t .lss (sV a) (sV b) [] (bV (Op.bytesLess a b))
 | leqS {a b : List UInt8} : BinR T S t .leq (sV a) (sV b) [] (bV (!Op.bytesLess b a))
 | gtrS {a b : List UInt8} : BinR T S t .gtr (sV a) (sV b) [] (bV (Op.bytesLess b a))
 | geqS {a b : List UInt8} : BinR T S t .geq (sV a) (sV b) [] (bV (!Op.bytesLess a b))
 | eqlB {a b : Bool} {ti : TI} : look T t = some ti → ti.d = .bool → BinR T S t .eql (bV a) (bV b) [] (bV (decide (a = b)))
 | neqB {a b : Bool} {ti : TI} : look T t = some ti → ti.d = .bool → BinR T S t .neq (bV a) (bV b) [] (bV (!decide (a = b)))
 | eqlA {cs ds : List PV} {ti : TI} {fs : List (Nat × Nat × TypeId)} {r : Bool} : look T t = some ti → ti.d = .struct fs → ti.plainEq = true → ti.held = false → inOrder 0 fs = true →
   EqCells T fs cs ds r → BinR T S t .eql (.agg cs) (.agg ds) [] (bV r)
 | neqA {cs ds : List PV} {ti : TI} {fs : List (Nat × Nat × TypeId)} {r : Bool} : look T t = some ti → ti.d = .struct fs → ti.plainEq = true → ti.held = false → inOrder 0 fs = true →
   EqCells T fs cs ds r → BinR T S t .neq (.agg cs) (.agg ds) [] (bV (!r))
 | eqlN {e : TypeId} {ti : TI} : look T t = some ti → ti.d = .slice e → BinR T S t .eql nilS nilS [] (bV true)
 | neqN {e : TypeId} {ti : TI} : look T t = some ti → ti.d = .slice e → BinR T S t .neq nilS nilS [] (bV false)
 | eqlSl {e : TypeId} {ti : TI} {nl : Bool} {sz : Nat} {es : List PV} : look T t = some ti → ti.d = .slice e → BinR T S t .eql (.sl nl sz es) nilS [] (bV nl)
 | neqSl {e : TypeId} {ti : TI} {nl : Bool} {sz : Nat} {es : List PV} : look T t = some ti → ti.d = .slice e → BinR T S t .neq (.sl nl sz es) nilS [] (bV (!nl))
theorem beq_dec (a b : List UInt8) : (a == b) = decide (a = b) := by by_cases h : a = b <;> simp [h]
theorem bytesLess_total : ∀ a b : List UInt8, (Op.bytesLess a b || decide (a = b)) = !Op.bytesLess b a
 | [], [] => by simp [Op.bytesLess]
 | [], b :: y => by simp [Op.bytesLess]
 | a :: x, [] => by simp [Op.bytesLess]
 | a :: x, b :: y => by
  have ih := bytesLess_total x y
  simp only [Op.bytesLess]
  rcases Nat.lt_trichotomy a.toNat b.toNat with h | h | h
  ·have h1 : a < b := UInt8.lt_iff_toNat_lt.2 h
   have h2 : ¬ b < a := fun e => by have := UInt8.lt_iff_toNat_lt.1 e; omega
   have h3 : ¬ b = a := fun e => by rw [e] at h; omega
   simp [h1, h2, h3]
  ·have h1 : a = b := UInt8.toNat_inj.1 h
   subst h1
   simp [← ih]
  ·have h1 : ¬ a < b := fun e => by have := UInt8.lt_iff_toNat_lt.1 e; omega
   have h2 : b < a := UInt8.lt_iff_toNat_lt.2 h
   have h3 : ¬ a = b := fun e => by rw [e] at h; omega
   simp [h1, h2, h3]
section
variable {P : Program} {T : Tbl} {w : World}
theorem und_int (hT : TOk P T) {t : TypeId} {ti : TI} {k : IntKind} (h : look T t = some ti) (hd : ti.d = .int k) : P.underlying t = some (.int k) := by
 obtain ⟨info, desc, _, h2, h3, _⟩ := hT.get h
 rw [hd] at h3
 cases desc <;> simp [TD.of] at h3
 rw [h2, h3]
theorem und_str (hT : TOk P T) {t : TypeId} {ti : TI} (h : look T t = some ti) (hd : ti.d = .str) : P.underlying t = some .string := by
 obtain ⟨info, desc, _, h2, h3, _⟩ := hT.get h
 rw [hd] at h3
 cases desc <;> simp [TD.of] at h3
 rw [h2]
theorem und_bool (hT : TOk P T) {t : TypeId} {ti : TI} (h : look T t = some ti) (hd : ti.d = .bool) : P.underlying t = some .bool := by
 obtain ⟨info, desc, _, h2, h3, _⟩ := hT.get h
 rw [hd] at h3
 cases desc <;> simp [TD.of] at h3
 rw [h2]
theorem und_slice (hT : TOk P T) {t : TypeId} {ti : TI} {e : TypeId} (h : look T t = some ti) (hd : ti.d = .slice e) : P.underlying t = some (.slice e) := by
 obtain ⟨info, desc, _, h2, h3, _⟩ := hT.get h
 rw [hd] at h3
 cases desc <;> simp [TD.of] at h3
 rw [h2, h3]
theorem und_array (hT : TOk P T) {t : TypeId} {ti : TI} {n : Nat} {e : TypeId} (h : look T t = some ti) (hd : ti.d = .array n e) : P.underlying t = some (.array n e) := by
 obtain ⟨info, desc, _, h2, h3, _⟩ := hT.get h
 rw [hd] at h3
 cases desc <;> simp [TD.of] at h3
 rw [h2, h3.1, h3.2]
theorem und_struct (hT : TOk P T) {t : TypeId} {ti : TI} {fs : List (Nat × Nat × TypeId)} (h : look T t = some ti) (hd : ti.d = .struct fs) :
  ∃ fields, P.underlying t = some (.struct fields) ∧ fs = fields.toList.map fun f => (f.offset, if f.name = "_" then 0 else P.cellsOf f.type, f.type) := by
 obtain ⟨info, desc, _, h2, h3, _⟩ := hT.get h
 rw [hd] at h3
 cases desc <;> simp [TD.of] at h3
 exact ⟨_, h2, h3⟩
theorem size_of (hT : TOk P T) {t : TypeId} {ti : TI} (h : look T t = some ti) (w : World) : (sizeOf t).run P w = .ok ti.size w := by
 obtain ⟨info, desc, h1, _, _, h4, _⟩ := hT.get h
 simp [sizeOf, typeInfo, h1, h4]
theorem drop_cons_get {α : Type} {l : List α} {k : Nat} {x : α} {r : List α} (h : l.drop k = x :: r) : l[k]? = some x ∧ l.drop (k + 1) = r := by
 refine ⟨?_, ?_⟩
 ·have := congrArg (fun m => m[0]?) h
  simpa using this
 ·have := congrArg (List.drop 1) h
  simpa [List.drop_drop, Nat.add_comm] using this
theorem run_part1 {t : TypeId} {xs : Array Value} {k : Nat} {x : Value} (w : World) (hx : xs.toList[k]? = some x) {d : TypeDesc} (hu : P.underlying t = some d) (hd : (match d with | .struct _ | .array _ _ => true | _ => false) = false) :
  (part t xs k).run P w = .ok x w := by
 have hx' : xs[k]? = some x := by rw [← Array.getElem?_toList]; exact hx
 unfold part isAgg
 cases d <;> simp at hd <;> simp [run_underlying hu, hx']
theorem eqFields_run (hT : TOk P T) (xs ys : Array Value) (d : Nat) : ∀ {fs : List (Nat × Nat × TypeId)} {cs ds : List PV} {r : Bool}, EqCells T fs cs ds r → ∀ (fields : List Field) (k : Nat),
  fs = fields.map (fun f => (f.offset, if f.name = "_" then 0 else P.cellsOf f.type, f.type)) →
  inOrder k fs = true → ∀ {F : Nat → Prop} {L : LMap} {us vs : List Value}, RepL w F L cs us → RepL w F L ds vs → xs.toList.drop k = us → ys.toList.drop k = vs →
  (Op.eqFields (d + 1) xs ys fields).run P w = .ok r w := by
 intro fs cs ds r h
 induction h with
 | nil =>
  intro fields k hf hk F L us vs hu hv hx hy
  cases fields with
  | nil => simp [Op.eqFields]
  | cons => simp at hf
 | int hl hd hr ih =>
  intro fields k hf hk F L us vs hu hv hx hy
  cases fields with
  | nil => simp at hf
  | cons f rest =>
   simp only [List.map_cons, List.cons.injEq, Prod.mk.injEq] at hf
   obtain ⟨⟨rfl, h1, rfl⟩, hrest⟩ := hf
   simp only [inOrder, Bool.and_eq_true] at hk
   have hk1 := Nat.eq_of_beq_eq_true hk.1
   cases hu with | cons hu1 hu2 => cases hv with | cons hv1 hv2 =>
   obtain rfl := hu1.inv_v
   obtain rfl := hv1.inv_v
   obtain ⟨gx, gx'⟩ := drop_cons_get hx
   obtain ⟨gy, gy'⟩ := drop_cons_get hy
   have hne : f.name ≠ "_" := fun e => by simp [e] at h1
   have hui := und_int hT hl hd
   have ih' := ih rest (k + 1) hrest hk.2 hu2 hv2 gx' gy'
   rw [← hk1] at gx gy
   simp only [Op.eqFields, if_pos hne, Sem.run_bind, run_part1 w gx hui rfl, run_part1 w gy hui rfl, Result.andThen_ok, run_equalIn_int w d _ _ _ _ _ hui, Sem.run_ite, Sem.run_pure, ih']
   split
   ·rename_i hh; simp at hh; simp [hh]
   ·rename_i hh; simp at hh; simp [hh]
 | str hl hd hr ih =>
  intro fields k hf hk F L us vs hu hv hx hy
  cases fields with
  | nil => simp at hf
  | cons f rest =>
   simp only [List.map_cons, List.cons.injEq, Prod.mk.injEq] at hf
   obtain ⟨⟨rfl, h1, rfl⟩, hrest⟩ := hf
   simp only [inOrder, Bool.and_eq_true] at hk
   have hk1 := Nat.eq_of_beq_eq_true hk.1
   cases hu with | cons hu1 hu2 => cases hv with | cons hv1 hv2 =>
   obtain rfl := hu1.inv_v
   obtain rfl := hv1.inv_v
   obtain ⟨gx, gx'⟩ := drop_cons_get hx
   obtain ⟨gy, gy'⟩ := drop_cons_get hy
   have hne : f.name ≠ "_" := fun e => by simp [e] at h1
   have hui := und_str hT hl hd
   have ih' := ih rest (k + 1) hrest hk.2 hu2 hv2 gx' gy'
   rw [← hk1] at gx gy
   simp only [Op.eqFields, if_pos hne, Sem.run_bind, run_part1 w gx hui rfl, run_part1 w gy hui rfl, Result.andThen_ok, run_equalIn_string w d _ _ _ hui, Sem.run_ite, Sem.run_pure, ih', ByteArray.toList_eq]
   split
   ·rename_i hh; simp at hh; simp [hh]
   ·rename_i hh; simp at hh; simp [hh]
 | bool hl hd hr ih =>
  intro fields k hf hk F L us vs hu hv hx hy
  cases fields with
  | nil => simp at hf
  | cons f rest =>
   simp only [List.map_cons, List.cons.injEq, Prod.mk.injEq] at hf
   obtain ⟨⟨rfl, h1, rfl⟩, hrest⟩ := hf
   simp only [inOrder, Bool.and_eq_true] at hk
   have hk1 := Nat.eq_of_beq_eq_true hk.1
   cases hu with | cons hu1 hu2 => cases hv with | cons hv1 hv2 =>
   obtain rfl := hu1.inv_v
   obtain rfl := hv1.inv_v
   obtain ⟨gx, gx'⟩ := drop_cons_get hx
   obtain ⟨gy, gy'⟩ := drop_cons_get hy
   have hne : f.name ≠ "_" := fun e => by simp [e] at h1
   have hui := und_bool hT hl hd
   have ih' := ih rest (k + 1) hrest hk.2 hu2 hv2 gx' gy'
   rw [← hk1] at gx gy
   simp only [Op.eqFields, if_pos hne, Sem.run_bind, run_part1 w gx hui rfl, run_part1 w gy hui rfl, Result.andThen_ok, run_equalIn_bool' w d _ _ _ hui, Sem.run_ite, Sem.run_pure, ih']
   split
   ·rename_i hh; simp at hh; simp [hh]
   ·rename_i hh; simp at hh; simp [hh]
theorem fieldsOf_eq {t : TypeId} {fields : Array Field} (h : P.underlying t = some (.struct fields)) : P.fieldsOf t = fields := by simp [Program.fieldsOf, h]
theorem eqA_run (hT : TOk P T) {t : TypeId} {ti : TI} {fs : List (Nat × Nat × TypeId)} {cs ds : List PV} {r : Bool} (hl : look T t = some ti) (hd : ti.d = .struct fs) (hh : ti.held = false)
  (ho : inOrder 0 fs = true) (he : EqCells T fs cs ds r) {F : Nat → Prop} {L : LMap} {us vs : List Value} (hu : RepL w F L cs us) (hv : RepL w F L ds vs) :
  (Op.equalIn 10000 t (.agg us.toArray) (.agg vs.toArray)).run P w = .ok r w := by
 obtain ⟨fields, h1, h2⟩ := und_struct hT hl hd
 have h3 := fieldsOf_eq h1
 have hs : P.stoodInHeld t = false := by
  obtain ⟨_, _, _, _, _, _, _, _, _, h8⟩ := hT.get hl
  rw [← h8, hh]
 rw [run_equalIn_struct w 9999 t _ _ (by rw [h3]; exact h1) hs, h3]
 exact eqFields_run hT _ _ 9998 he fields.toList 0 h2 ho hu hv rfl rfl
theorem guard_plain (hT : TOk P T) {t : TypeId} {ti : TI} (hl : look T t = some ti) (hp : ti.plainEq = true) (op : BinOp) (x y : Operand) (xs ys : Array Value) :
  (eqGuard op t x y (.agg xs) (.agg ys)).run P w = .ok () w := by
 obtain ⟨_, _, _, _, _, _, _, _, h7, _⟩ := hT.get hl
 rw [h7] at hp
 exact run_eqGuard_agg w op t x y xs ys (by simpa using hp)
theorem equalIn_slice_nil {t e : TypeId} (h : P.underlying t = some (.slice e)) (d : Nat) (a : Option Addr) (n c : Nat) : (Op.equalIn (d + 1) t (.slice a n c) (.slice none 0 0)).run P w = .ok a.isNone w := by
 cases a <;> simp [Op.equalIn, run_underlying h]
theorem run_eql_of {t : TypeId} {x y : Value} {r : Bool} (hb : binOp .eql t x y = do pure (.bool (← Op.equal t x y))) (h : (Op.equalIn (9999 + 1) t x y).run P w = .ok r w) : (binOp .eql t x y).run P w = .ok (.bool r) w := by
 have h' : (Op.equal t x y).run P w = .ok r w := h
 rw [hb]
 simp only [Sem.run_bind, h', Result.andThen_ok, Sem.run_pure]
theorem run_neq_of {t : TypeId} {x y : Value} {r : Bool} (hb : binOp .neq t x y = do pure (.bool (!(← Op.equal t x y)))) (h : (Op.equalIn (9999 + 1) t x y).run P w = .ok r w) : (binOp .neq t x y).run P w = .ok (.bool (!r)) w := by
 have h' : (Op.equal t x y).run P w = .ok r w := h
 rw [hb]
 simp only [Sem.run_bind, h', Result.andThen_ok, Sem.run_pure]
theorem BinR.sound (hT : TOk P T) {S : St} {t : TypeId} {op : BinOp} {p q r : PV} {rn : List Nat} (h : BinR T S t op p q rn r) (x y : Operand) {F : Nat → Prop} {L : LMap} {u v : Value}
  (hu : Rep w F L p u) (hv : Rep w F L q v) : ∃ z, (do eqGuard op t x y u v; binOp op t u v : Sem Value).run P w = .ok z w ∧ Rep w F L r z := by
 cases h with
 | addI64 hb =>
  have e := IntWalk.i64_in _ hb
  obtain rfl := hu.inv_v
  obtain rfl := hv.inv_v
  exact ⟨_, by simp [eqGuard, binOp, Op.intArith, e], .v _ _⟩
 | subI64 hb =>
  have e := IntWalk.i64_in _ hb
  obtain rfl := hu.inv_v
  obtain rfl := hv.inv_v
  exact ⟨_, by simp [eqGuard, binOp, Op.intArith, e], .v _ _⟩
 | mulI64 hb =>
  have e := IntWalk.i64_in _ hb
  obtain rfl := hu.inv_v
  obtain rfl := hv.inv_v
  exact ⟨_, by simp [eqGuard, binOp, Op.intArith, e], .v _ _⟩
 | quoI64 hb =>
  rename_i a b
  obtain ⟨h1, h2, h3⟩ : 0 ≤ a ∧ a ≤ 9223372036854775807 ∧ 0 < b := hb
  obtain rfl := hu.inv_v
  obtain rfl := hv.inv_v
  have hb0 : b ≠ 0 := by omega
  have e0 : a.tdiv b = a / b := Int.tdiv_eq_ediv_of_nonneg h1
  have e1 : a / b ≤ a := Int.ediv_le_self b h1
  have e2 : 0 ≤ a / b := Int.ediv_nonneg h1 (by omega)
  have e := IntWalk.i64_in (a / b) ⟨by omega, by omega⟩
  exact ⟨_, by simp [eqGuard, binOp, Op.intDiv, hb0, e0, e], .v _ _⟩
 | remI64 hb =>
  rename_i a b
  obtain ⟨h1, h2, h3⟩ : 0 ≤ a ∧ a ≤ 9223372036854775807 ∧ 0 < b := hb
  obtain rfl := hu.inv_v
  obtain rfl := hv.inv_v
  have hb0 : b ≠ 0 := by omega
  have e0 : a.tmod b = a % b := Int.tmod_eq_emod_of_nonneg h1
  exact ⟨_, by simp [eqGuard, binOp, Op.intDiv, hb0, e0], .v _ _⟩
 | eqlA hl hd hp hh ho he =>
  cases hu with | agg hu => cases hv with | agg hv =>
  refine ⟨_, ?_, .v _ _⟩
  simp only [Sem.run_bind, guard_plain hT hl hp, Result.andThen_ok, run_eql_struct, eqA_run hT hl hd hh ho he hu hv]
 | neqA hl hd hp hh ho he =>
  cases hu with | agg hu => cases hv with | agg hv =>
  refine ⟨_, ?_, .v _ _⟩
  simp only [Sem.run_bind, guard_plain hT hl hp, Result.andThen_ok, run_neq_struct, eqA_run hT hl hd hh ho he hu hv]
 | eqlSl hl hd =>
  obtain rfl := hv.inv_v
  cases hu with
  | sl h1 h2 h3 =>
   refine ⟨_, ?_, .v _ _⟩
   simp only [eqGuard, Sem.run_bind, run_eql_of (by rfl) (equalIn_slice_nil (und_slice hT hl hd) 9999 _ _ _)]
   simp
  | slNil =>
   refine ⟨_, ?_, .v _ _⟩
   simp only [eqGuard, Sem.run_bind, run_eql_of (by rfl) (equalIn_slice_nil (und_slice hT hl hd) 9999 _ _ _)]
   simp
  | slE =>
   refine ⟨_, ?_, .v _ _⟩
   simp only [eqGuard, Sem.run_bind, run_eql_of (by rfl) (equalIn_slice_nil (und_slice hT hl hd) 9999 _ _ _)]
   simp
 | neqSl hl hd =>
  obtain rfl := hv.inv_v
  cases hu with
  | sl h1 h2 h3 =>
   refine ⟨_, ?_, .v _ _⟩
   simp only [eqGuard, Sem.run_bind, run_neq_of (by rfl) (equalIn_slice_nil (und_slice hT hl hd) 9999 _ _ _)]
   simp
  | slNil =>
   refine ⟨_, ?_, .v _ _⟩
   simp only [eqGuard, Sem.run_bind, run_neq_of (by rfl) (equalIn_slice_nil (und_slice hT hl hd) 9999 _ _ _)]
   simp
  | slE =>
   refine ⟨_, ?_, .v _ _⟩
   simp only [eqGuard, Sem.run_bind, run_neq_of (by rfl) (equalIn_slice_nil (und_slice hT hl hd) 9999 _ _ _)]
   simp
 | eqlN hl hd =>
  obtain rfl := hu.inv_v
  obtain rfl := hv.inv_v
  refine ⟨_, ?_, .v _ _⟩
  simp only [eqGuard, Sem.run_bind, run_eql_of (by rfl) (equalIn_slice_nil (und_slice hT hl hd) 9999 _ _ _)]
  simp
 | neqN hl hd =>
  obtain rfl := hu.inv_v
  obtain rfl := hv.inv_v
  refine ⟨_, ?_, .v _ _⟩
  simp only [eqGuard, Sem.run_bind, run_neq_of (by rfl) (equalIn_slice_nil (und_slice hT hl hd) 9999 _ _ _)]
  simp
 | eqlB hl hd =>
  rename_i a b ti
  obtain rfl := hu.inv_v
  obtain rfl := hv.inv_v
  refine ⟨_, ?_, .v _ _⟩
  have e := run_eql_of (P := P) (w := w) (t := t) (x := .bool a) (y := .bool b) (by cases a <;> cases b <;> rfl) (run_equalIn_bool' w 9999 _ _ _ (und_bool hT hl hd))
  simp only [eqGuard, Sem.run_bind]
  cases a <;> cases b <;> simpa using e
 | neqB hl hd =>
  rename_i a b ti
  obtain rfl := hu.inv_v
  obtain rfl := hv.inv_v
  refine ⟨_, ?_, .v _ _⟩
  have e := run_neq_of (P := P) (w := w) (t := t) (x := .bool a) (y := .bool b) (by cases a <;> cases b <;> rfl) (run_equalIn_bool' w 9999 _ _ _ (und_bool hT hl hd))
  simp only [eqGuard, Sem.run_bind]
  cases a <;> cases b <;> simpa using e
 | quoI hb =>
  obtain rfl := hu.inv_v
  obtain rfl := hv.inv_v
  refine ⟨_, ?_, .v _ _⟩
  have hb' := hb
  unfold Side at hb'
  simp [eqGuard, binOp, Op.intDiv, hb']
 | remI hb =>
  obtain rfl := hu.inv_v
  obtain rfl := hv.inv_v
  refine ⟨_, ?_, .v _ _⟩
  have hb' := hb
  unfold Side at hb'
  simp [eqGuard, binOp, Op.intDiv, hb']
 | shlI hb =>
  obtain rfl := hu.inv_v
  obtain rfl := hv.inv_v
  refine ⟨_, ?_, .v _ _⟩
  have hb' := Int.not_lt.2 hb
  simp [eqGuard, binOp, Op.shift, hb']
 | shrI hb =>
  obtain rfl := hu.inv_v
  obtain rfl := hv.inv_v
  refine ⟨_, ?_, .v _ _⟩
  have hb' := Int.not_lt.2 hb
  simp [eqGuard, binOp, Op.shift, hb']
 | addS hb =>
  rename_i a b
  obtain rfl := hu.inv_v
  obtain rfl := hv.inv_v
  refine ⟨_, ?_, .v _ _⟩
  have hb' : ¬ ((a.length : Int) + b.length > 9223372036854775807) := by unfold Side at hb; omega
  have hmax : IntKind.i64.max = 9223372036854775807 := by decide
  have e1 : (⟨⟨a⟩⟩ : ByteArray).size = a.length := rfl
  have e2 : (⟨⟨b⟩⟩ : ByteArray).size = b.length := rfl
  have e3 : (⟨⟨a⟩⟩ : ByteArray) ++ ⟨⟨b⟩⟩ = ⟨⟨a ++ b⟩⟩ := by
   apply ByteArray.ext
   simp [ByteArray.data_append]
  simp only [eqGuard, binOp, Op.stringOp, hmax, e1, e2, e3]
  simp [hb']
 | leqS =>
  rename_i a b
  obtain rfl := hu.inv_v
  obtain rfl := hv.inv_v
  refine ⟨_, ?_, .v _ _⟩
  rw [← bytesLess_total]
  by_cases e : a = b <;> simp [eqGuard, binOp, Op.stringOp, ByteArray.toList_eq, e]
 | gtrS =>
  rename_i a b
  obtain rfl := hu.inv_v
  obtain rfl := hv.inv_v
  refine ⟨_, ?_, .v _ _⟩
  rw [← Bool.not_not (Op.bytesLess _ _), ← bytesLess_total]
  by_cases e : a = b <;> simp [eqGuard, binOp, Op.stringOp, ByteArray.toList_eq, e]
 | _ =>
  obtain rfl := hu.inv_v
  obtain rfl := hv.inv_v
  refine ⟨_, ?_, .v _ _⟩
  first
   | (simp [eqGuard, binOp, Op.intArith, Op.intCmp, Op.intBits, bitOp]; done)
   | (simp [eqGuard, binOp, Op.intArith, Op.intCmp, Op.intBits, bitOp]; rfl)
   | (simp [eqGuard, binOp, Op.stringOp, ByteArray.toList_eq]; done)
   | (simp [eqGuard, binOp, Op.stringOp, ByteArray.toList_eq]; exact beq_dec _ _)
end
end Go.Sym
