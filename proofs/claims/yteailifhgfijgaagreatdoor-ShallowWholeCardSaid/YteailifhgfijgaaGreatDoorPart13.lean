/- A part of the proof: SymQ. -/
import Derived.Test.YteailifhgfijgaaGreatDoorPart12
set_option linter.unusedVariables false
set_option linter.unusedSimpArgs false
namespace Go.Sym
open Go.RowKit
section
variable (P : Program) [Globs P] (T : Tbl)
inductive Rule (γ : Bool) (S : St) : Oper → List Nat → Delta → Prop
 | move {dst : Option Tmp} {ty : Nat} {pos : String} {aft : Array Edge} {g : Option (Nat × Bool)} {x : Operand} {p : PV} : OpdO γ S x p → Rule γ S ⟨dst, .move x, ty, pos, aft, g⟩ [] ⟨p, []⟩
 | assign {dst : Option Tmp} {ty : Nat} {pos : String} {aft : Array Edge} {g : Option (Nat × Bool)} {x : Operand} {p : PV} : OpdO γ S x p → Rule γ S ⟨dst, .assign x, ty, pos, aft, g⟩ [] ⟨p, []⟩
 | pick {dst : Option Tmp} {ty : Nat} {pos : String} {aft : Array Edge} {g : Option (Nat × Bool)} {c x y : Operand} {b : Bool} {p q r : PV} : OpdO γ S c (bV b) → Opd S x p → Opd S y q → PickR γ b p q r → Rule γ S ⟨dst, .pick c x y, ty, pos, aft, g⟩ [] ⟨r, []⟩
 | fieldAddr {dst : Option Tmp} {ty : Nat} {pos : String} {aft : Array Edge} {g : Option (Nat × Bool)} {s f : Nat} {x : Operand} {p q : PV} {rn : List Nat} {ti : TI} {fs : List (Nat × Nat × TypeId)} {off sz ft : Nat} :
   OpdO γ S x p → look T s = some ti → ti.d = .struct fs → fs[f]? = some (off, sz, ft) → Nat.beq sz 0 = false → AddR S off p rn q → Rule γ S ⟨dst, .fieldAddr s x f, ty, pos, aft, g⟩ rn ⟨q, []⟩
 | load {dst : Option Tmp} {ty : Nat} {pos : String} {aft : Array Edge} {g : Option (Nat × Bool)} {t : Nat} {x : Operand} {p q : PV} {rn : List Nat} {ti : TI} {ag : Option Nat} :
   OpdO γ S x p → look T t = some ti → ti.agg = ag → LoadR S ag p rn q → Rule γ S ⟨dst, .load t x, ty, pos, aft, g⟩ rn ⟨q, []⟩
 | indexAddr {dst : Option Tmp} {ty : Nat} {pos : String} {aft : Array Edge} {g : Option (Nat × Bool)} {t e : Nat} {x y : Operand} {p q : PV} {rn : List Nat} {ti ei : TI} {td : TD} {k : IntKind} {i : Int} {sz : Nat} :
   OpdO γ S x p → OpdO γ S y (.v (.int k i)) → look T t = some ti → ti.d = td → td.elem = some e → look T e = some ei → ei.size = sz → IdxR S td sz p i rn q → Rule γ S ⟨dst, .indexAddr t x y, ty, pos, aft, g⟩ rn ⟨q, []⟩
 | binOp {dst : Option Tmp} {ty : Nat} {pos : String} {aft : Array Edge} {g : Option (Nat × Bool)} {op : BinOp} {t t' : TypeId} {x y : Operand} {p q r : PV} {rn : List Nat} :
   OpdO γ S x p → OpdO γ S y q → BinR T S t op p q rn r → Rule γ S ⟨dst, .binOp op t x y t', ty, pos, aft, g⟩ rn ⟨r, []⟩
 | unOp {dst : Option Tmp} {ty : Nat} {pos : String} {aft : Array Edge} {g : Option (Nat × Bool)} {op : UnOp} {t : TypeId} {x : Operand} {p q : PV} : OpdO γ S x p → UnR op p q → Rule γ S ⟨dst, .unOp op t x, ty, pos, aft, g⟩ [] ⟨q, []⟩
 | convert {dst : Option Tmp} {ty : Nat} {pos : String} {aft : Array Edge} {g : Option (Nat × Bool)} {s t : TypeId} {x : Operand} {p q : PV} {rn : List Nat} {si ti : TI} {sd td : TD} :
   OpdO γ S x p → look T s = some si → si.d = sd → look T t = some ti → ti.d = td → ConvR S sd td p rn q → Rule γ S ⟨dst, .convert s t x, ty, pos, aft, g⟩ rn ⟨q, []⟩
 | len {dst : Option Tmp} {ty : Nat} {pos : String} {aft : Array Edge} {g : Option (Nat × Bool)} {t : TypeId} {x : Operand} {p : PV} {n : Int} {rn : List Nat} {ti : TI} {td : TD} :
   OpdO γ S x p → look T t = some ti → ti.d = td → LenR S td p rn n → Rule γ S ⟨dst, .call { callee := .builtin .len, args := #[x], argTypes := #[t] }, ty, pos, aft, g⟩ rn ⟨iV n, []⟩
 | makeFunc {dst : Option Tmp} {ty : Nat} {pos : String} {aft : Array Edge} {g : Option (Nat × Bool)} {fn : Fn} {xs ys : Array Operand} {ps qs : List PV} :
   OpdsO γ S xs.toList ps → OpdsO γ S ys.toList qs → Rule γ S ⟨dst, .makeFunc fn xs ys, ty, pos, aft, g⟩ [] ⟨.clo fn ps qs, []⟩
 | extract {dst : Option Tmp} {ty : Nat} {pos : String} {aft : Array Edge} {g : Option (Nat × Bool)} {x : Operand} {i : Nat} {ps : List PV} {p : PV} : OpdO γ S x (.tup ps) → nth ps i = some p → Rule γ S ⟨dst, .extract x i, ty, pos, aft, g⟩ [] ⟨p, []⟩
 | field {dst : Option Tmp} {ty : Nat} {pos : String} {aft : Array Edge} {g : Option (Nat × Bool)} {s f ft sz off : Nat} {x : Operand} {cs : List PV} {q : PV} {ti fi : TI} {fs : List (Nat × Nat × TypeId)} {ag : Option Nat} :
   OpdO γ S x (.agg cs) → look T s = some ti → ti.d = .struct fs → fs[f]? = some (off, sz, ft) → Nat.beq sz 0 = false → look T ft = some fi → fi.agg = ag → PartR cs off ag q → Rule γ S ⟨dst, .field s x f, ty, pos, aft, g⟩ [] ⟨q, []⟩
 | index {dst : Option Tmp} {ty : Nat} {pos : String} {aft : Array Edge} {g : Option (Nat × Bool)} {t : TypeId} {x y : Operand} {l : List UInt8} {k : IntKind} {i : Int} {ti : TI} :
   OpdO γ S x (sV l) → OpdO γ S y (.v (.int k i)) → look T t = some ti → ti.d = .str → Side (0 ≤ i ∧ i < l.length) → Rule γ S ⟨dst, .index t x y, ty, pos, aft, g⟩ [] ⟨.v (.int .u8 ((l.getD i.toNat 0).toNat : Int)), []⟩
 | slice {dst : Option Tmp} {ty : Nat} {pos : String} {aft : Array Edge} {g : Option (Nat × Bool)} {t : TypeId} {x : Operand} {lo hi : Option Operand} {lo' hi' : Option Int} {p q : PV} {rn : List Nat} {ti : TI} {td : TD} :
   OpdO γ S x p → OptI γ S lo lo' → OptI γ S hi hi' → look T t = some ti → ti.d = td → SliceR T S lo' hi' td p rn q → Rule γ S ⟨dst, .slice t x lo hi none, ty, pos, aft, g⟩ rn ⟨q, []⟩
 | box {k ty : Nat} {pos : String} {aft : Array Edge} {g : Option (Nat × Bool)} {elem : TypeId} {x : Operand} {p : PV} : OpdO γ S x p → S.obj k = none → rowOk p = true → Rule γ S ⟨some k, .box elem x, ty, pos, aft, g⟩ [k] ⟨.ref k 0, [(k, .box p.cells)]⟩
 | alloc {k ty : Nat} {pos : String} {aft : Array Edge} {g : Option (Nat × Bool)} {elem : TypeId} {ti : TI} {zs : List Value} : look T elem = some ti → ti.zero = some zs → S.obj k = none → Rule γ S ⟨some k, .alloc elem, ty, pos, aft, g⟩ [k] ⟨.ref k 0, [(k, .box (zs.map .v))]⟩
 | buildSlice {ty : Nat} {pos : String} {aft : Array Edge} {g : Option (Nat × Bool)} {k t e n : Nat} {parts : Array (Nat × Operand)} {ps : List PV} {ti ei : TI} {zs : List Value} :
   OpdsO γ S (parts.toList.map (·.2)) ps → inRow 0 parts.toList = true → parts.toList.length = n → look T t = some ti → ti.d = .slice e → look T e = some ei → ei.zero = some zs → zs.length = ei.size → rowsOk ei.size ps = true →
   Nat.ble (n * ei.size) 16777216 = true → S.obj k = none → Rule γ S ⟨some k, .buildSlice t n parts, ty, pos, aft, g⟩ [k] ⟨.osl k 0 n n, [(k, .arr ei.size false ps)]⟩
 | build {dst : Option Tmp} {ty : Nat} {pos : String} {aft : Array Edge} {g : Option (Nat × Bool)} {t : TypeId} {parts : Array (Nat × Operand)} {ps es : List PV} {ti : TI} {fs : List (Nat × Nat × TypeId)} {zs : List Value} :
   OpdsO γ S (parts.toList.map (·.2)) ps → look T t = some ti → ti.d = .struct fs → ti.zero = some zs → fs.all (fun x => !Nat.beq x.2.1 0) = true → FillP fs (parts.toList.map (·.1)) ps (zs.map .v) es → Rule γ S ⟨dst, .build t parts, ty, pos, aft, g⟩ [] ⟨.agg es, []⟩
 | store {ty : Nat} {pos : String} {aft : Array Edge} {g : Option (Nat × Bool)} {t : TypeId} {x y : Operand} {p v : PV} {o : Nat} {ob : SObj} {ti : TI} :
   OpdO γ S x p → OpdO γ S y v → look T t = some ti → Nat.beq v.cells.length ti.size = true → rowOk v = true → cellsOkL v.cells = true → StoreR S p v.cells o ob → Rule γ S ⟨none, .store t x y, ty, pos, aft, g⟩ [o] ⟨.v undef, [(o, ob)]⟩
 | append {ty : Nat} {pos : String} {aft : Array Edge} {g : Option (Nat × Bool)} {k t t2 e : Nat} {x y : Operand} {p q : PV} {o : Nat} {isnil : Bool} {es xs : List PV} {rn : List Nat} {ti ti2 ei : TI} {td2 : TD} {zs : List Value} {sz by_ : Nat} :
   OpdO γ S x p → OpdO γ S y q → look T t = some ti → ti.d = .slice e → look T e = some ei → ei.size = sz → ei.bytes = by_ → ei.zero = some zs → Nat.beq zs.length sz = true → look T t2 = some ti2 → ti2.d = td2 →
   DstR S k sz p o isnil es → SrcR S td2 sz q rn xs → Side (cellsOkL (cellsOf xs) = true) → Side ((es.length + xs.length) * by_ ≤ 140737488355328) → Side (es.length + xs.length ≤ 9223372036854775807) →
   Rule γ S ⟨some k, .call { callee := .builtin .append, args := #[x, y], argTypes := #[t, t2] }, ty, pos, aft, g⟩ (o :: rn) ⟨.osl o 0 (es ++ xs).length (es ++ xs).length, [(o, .arr sz (isnil && xs.isEmpty) (es ++ xs))]⟩
 | sem {o : Oper} {rn : List Nat} {d : Delta} : (γ = true → FStep P o S rn d) → Rule γ S o rn d
theorem Rule.sound {P : Program} [Globs P] {T : Tbl} (hT : TOk P T) {γ : Bool} {S : St} {o : Oper} {rn : List Nat} {d : Delta} (h : Rule P T γ S o rn d) (hγ : γ = true) : FStep P o S rn d := by
 cases h with
 | move h => exact F_move hγ h
 | assign h => exact F_assign hγ h
 | pick h1 h2 h3 h4 => exact F_pick hγ h1 h2 h3 h4
 | fieldAddr h1 h2 h3 h4 h5 h6 => exact F_fieldAddr hT hγ h1 h2 h3 h4 h5 h6
 | load h1 h2 h3 h4 => exact F_load hT hγ h1 h2 h3 h4
 | indexAddr h1 h2 h3 h4 h5 h6 h7 h8 => exact F_indexAddr hT hγ h1 h2 h3 h4 h5 h6 h7 h8
 | binOp h1 h2 h3 => exact F_binOp hT hγ h1 h2 h3
 | unOp h1 h2 => exact F_unOp hγ h1 h2
 | convert h1 h2 h3 h4 h5 h6 => exact F_convert hT hγ h1 h2 h3 h4 h5 h6
 | len h1 h2 h3 h4 => exact F_len hT hγ h1 h2 h3 h4
 | makeFunc h1 h2 => exact F_makeFunc hγ h1 h2
 | extract h1 h2 => exact F_extract hγ h1 h2
 | field h1 h2 h3 h4 h5 h6 h7 h8 => exact F_field hT hγ h1 h2 h3 h4 h5 h6 h7 h8
 | index h1 h2 h3 h4 h5 => exact F_index hT hγ h1 h2 h3 h4 h5
 | slice h1 h2 h3 h4 h5 h6 => exact F_slice hT hγ h1 h2 h3 h4 h5 h6
 | box h1 h2 h3 => exact F_box hγ h1 h2 h3
 | alloc h1 h2 h3 => exact F_alloc hT h1 h2 h3
 | buildSlice h1 h2 h3 h4 h5 h6 h7 h8 h9 h10 h11 => exact F_buildSlice hT hγ h1 h2 h3 h4 h5 h6 h7 h8 h9 h10 h11
 | build h1 h2 h3 h4 h5 h6 => exact F_build hT hγ h1 h2 h3 h4 h5 h6
 | store h1 h2 h3 h4 h5 h6 h7 => exact F_store hT hγ h1 h2 h3 h4 h5 h6 h7
 | append h1 h2 h3 h4 h5 h6 h7 h8 h9 h10 h11 h12 h13 h14 h15 h16 => exact F_append hT hγ h1 h2 h3 h4 h5 h6 h7 h8 h9 h10 h11 h12 h13 h14 h15 h16
 | sem h => exact h hγ
inductive GB (S : St) (o : Oper) : Bool → List Nat → Delta → Prop
 | on {rn : List Nat} {d : Delta} : Rule P T true S o rn d → GB S o true rn d
 | off : GB S o false [] ⟨.v undef, []⟩
 | sym {γ : Bool} {rn : List Nat} {x : PV} : Rule P T γ S o rn ⟨x, []⟩ → GB S o γ rn ⟨.opt γ x, []⟩
inductive GRule (ops : Array Oper) (S : St) (o : Oper) : Option (Nat × Bool) → List Nat → Delta → Prop
 | plain {rn : List Nat} {d : Delta} : Rule P T true S o rn d → GRule ops S o none rn d
 | grd {j : Nat} {want γ : Bool} {rn : List Nat} {d : Delta} : gval ops S j want = some γ → GB P T S o γ rn d → GRule ops S o (some (j, want)) rn d
inductive Run (ops : Array Oper) : List Oper → Nat → St → List Ent → St → Prop
 | nil {k : Nat} {S : St} : Run ops [] k S [] S
 | cons {o : Oper} {r : List Oper} {k : Nat} {S S' : St} {rn : List Nat} {d : Delta} {es : List Ent} : GRule P T ops S o o.guard rn d → Run ops r (k + 1) (S.app o.dst d) es S' → Run ops (o :: r) k S ((k, rn, d) :: es) S'
theorem GRule.sound {P : Program} [Globs P] {T : Tbl} (hT : TOk P T) {ops : Array Oper} {S : St} {o : Oper} {rn : List Nat} {d : Delta} {g : Option (Nat × Bool)} (hg : o.guard = g) (h : GRule P T ops S o g rn d) : GStep P ops o S rn d := by
 cases h with
 | plain h => exact .plain hg (h.sound hT rfl)
 | grd hv hb =>
  cases hb with
  | on h => exact .on hg hv rfl (h.sound hT rfl)
  | off => exact .off hg hv rfl
  | sym h => exact .sym hg hv (fun e => h.sound hT e)
theorem Run.sound {P : Program} [Globs P] {T : Tbl} (hT : TOk P T) {ops : Array Oper} : ∀ {l : List Oper} {k : Nat} {S S' : St} {es : List Ent}, Run P T ops l k S es S' → Exec P ops l k S es S'
 | [], _, _, _, _, h => by cases h; exact .nil
 | o :: r, _, _, _, _, h => by cases h with | cons h1 h2 => exact .cons (h1.sound hT rfl) (Run.sound hT h2)
end
section
variable {P : Program} {T : Tbl} {nt : Nat} {S S' S2 : St} {Q : Exit → St → Prop}
theorem Trip.reg [Globs P] {ops : List Oper} {id : Nat} {es : List Ent} (hT : TOk P T) (h : Run P T ops.toArray ops 0 S es S') (hb : dstsBelow ops.toArray nt = true) (hQ : Q .normal S') : Trip P nt S (.region id ops.toArray false) Q :=
 Trip.region (h.sound hT) hb hQ
theorem Trip.drw [Globs P] {ops : List Oper} {id : Nat} {es : List Ent} (hT : TOk P T) (hmo : P.follows .mixedOrders = true) (h : Run P T ops.toArray ops 0 S es S') (hb : dstsBelow ops.toArray nt = true) (hd : drawOk ops.toArray (es.map Ent.names) = true) (hQ : Q .normal S') : Trip P nt S (.region id ops.toArray true) Q :=
 Trip.draw hmo (h.sound hT) hb hd hQ
theorem Trip.regk [Globs P] (S2 : St) {ops : List Oper} {id : Nat} {es : List Ent} {y : Code} (hT : TOk P T) (h : Run P T ops.toArray ops 0 S es S') (hb : dstsBelow ops.toArray nt = true) (hw : Weak nt S' S2) (hQ : Trip P nt S2 y Q) : Trip P nt S (.seq (.region id ops.toArray false) y) Q :=
 Trip.seq (Trip.reg hT h hb (Trip.weak hw hQ))
theorem Trip.drwk [Globs P] (S2 : St) {ops : List Oper} {id : Nat} {es : List Ent} {y : Code} (hT : TOk P T) (hmo : P.follows .mixedOrders = true) (h : Run P T ops.toArray ops 0 S es S') (hb : dstsBelow ops.toArray nt = true) (hd : drawOk ops.toArray (es.map Ent.names) = true) (hw : Weak nt S' S2)
  (hQ : Trip P nt S2 y Q) : Trip P nt S (.seq (.region id ops.toArray true) y) Q :=
 Trip.seq (Trip.drw hT hmo h hb hd (Trip.weak hw hQ))
end
theorem conv_plain_all {S : St} {σ : List (Nat × Nat)} {B : List Nat} : (∀ p, plain p = true → ConvP S σ B p p) ∧ (∀ ps, plainL ps = true → ConvL S σ B ps ps) := by
 have c : ∀ p, plain p = true → ConvP S σ B p p := by
  intro p
  refine @PV.rec (fun p => plain p = true → ConvP S σ B p p) (fun ps => plainL ps = true → ConvL S σ B ps ps) ?_ ?_ ?_ ?_ ?_ ?_ ?_ ?_ ?_ ?_ ?_ ?_ ?_ ?_ ?_ ?_ ?_ ?_ p
  ·exact fun x _ => .v
  ·exact fun cs ih h => .agg (ih (by simpa [plain] using h))
  ·exact fun cs ih h => .tup (ih (by simpa [plain] using h))
  ·exact fun nl sz es _ _ => .sl
  ·exact fun cs _ _ => .rp
  ·exact fun o off h => by simp [plain] at h
  ·exact fun o i off n h => by simp [plain] at h
  ·exact fun o off len n h => by simp [plain] at h
  ·exact fun fn f cc i1 i2 h => by simp [plain] at h; exact .clo (i1 h.1) (i2 h.2)
  ·exact fun t x ih h => .ifc (ih (by simpa [plain] using h))
  ·exact fun b x _ h => by simp [plain] at h
  ·exact fun _ => .dead
  ·exact fun o h => by simp [plain] at h
  ·exact fun _ _ _ _ _ => .mp
  ·exact fun _ _ _ => .it
  ·exact fun _ _ _ _ => .slf
  ·exact fun _ => .nil
  ·exact fun c cs i1 i2 h => by simp [plainL] at h; exact .cons (i1 h.1) (i2 h.2)
 refine ⟨c, fun ps => ?_⟩
 induction ps with
 | nil => exact fun _ => .nil
 | cons d ds ih => exact fun h => by simp [plainL] at h; exact .cons (c d h.1) (ih h.2)
theorem plainL_append : ∀ {a b : List PV}, plainL a = true → plainL b = true → plainL (a ++ b) = true
 | [], _, _, h => h
 | c :: cs, _, h, k => by simp only [plainL, Bool.and_eq_true, List.cons_append] at h ⊢; exact ⟨h.1, plainL_append h.2 k⟩
theorem plainL_map {α : Type} (f : α → PV) (h : ∀ x, plain (f x) = true) (l : List α) : plainL (l.map f) = true := plainL_of fun p hp => by
 obtain ⟨x, _, rfl⟩ := List.mem_map.1 hp
 exact h x
theorem cellsOk_map {α : Type} (f : α → PV) (h : ∀ x, cellsOkL (f x).cells = true) (l : List α) : cellsOkL (cellsOf (l.map f)) = true := by
 unfold cellsOkL
 rw [List.all_eq_true]
 intro c hc
 unfold cellsOf at hc
 obtain ⟨e, he, hce⟩ := List.mem_flatMap.1 hc
 obtain ⟨x, _, rfl⟩ := List.mem_map.1 he
 exact (List.all_eq_true.1 (h x)) c hce
theorem idx_map {α : Type} [Inhabited α] (f : α → PV) (l : List α) (i : Nat) (h : i < l.length) : (l.map f)[i]? = some (f l[i]!) := by
 rw [List.getElem?_map, List.getElem?_eq_getElem h]
 simp [getElem!_pos l i h]
end Go.Sym
