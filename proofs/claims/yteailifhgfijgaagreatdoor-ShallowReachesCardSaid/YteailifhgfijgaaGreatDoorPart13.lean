/- A part of the proof: SymQ, SymR. -/
import Derived.Test.YteailifhgfijgaaGreatDoorPart12
set_option linter.unusedVariables false
set_option linter.unusedSimpArgs false
namespace Go.Sym
open Go.RowKit
section
variable (P : Program) [Globs P] (T : Tbl)
inductive Rule (γ : Bool) (S : St) : Oper → List Nat → Delta → Prop
 | move {dst : Option Tmp} {ty : Nat} {pos : String} {aft : Array Edge} {g : Option (Nat × Bool)} {x : Operand} {p : PV} : OpdO γ S x p → Rule γ S ⟨dst, .move x, ty, pos, aft, g⟩ [] ⟨p, []⟩
 | assign {dst : Option Tmp} {ty : Nat} {pos : String} {aft : Array Edge} {g : Option (Nat × Bool)} {x : Operand} {p : PV} : OpdO γ S x p → Rule γ S ⟨dst, .assign x, ty, pos, aft, g⟩ [] ⟨p, []⟩
 | pick {dst : Option Tmp} {ty : Nat} {pos : String} {aft : Array Edge} {g : Option (Nat × Bool)} {c x y : Operand} {b : Bool} {p q r : PV} : OpdO γ S c (bV b) → Opd S x p → Opd S y q → PickR γ b p q r → Rule γ S ⟨dst, .pick c x y, ty, pos, aft, g⟩ [] ⟨r, []⟩
 | fieldAddr {dst : Option Tmp} {ty : Nat} {pos : String} {aft : Array Edge} {g : Option (Nat × Bool)} {s f : Nat} {x : Operand} {p q : PV} {rn : List Nat} {ti : TI} {fs : List (Nat × Nat × TypeId)} {off sz ft : Nat} :
   OpdO γ S x p → look T s = some ti → ti.d = .struct fs → fs[f]? = some (off, sz, ft) → Nat.beq sz 0 = false → AddR S off p rn q → Rule γ S ⟨dst, .fieldAddr s x f, ty, pos, aft, g⟩ rn ⟨q, []⟩
 | load {dst : Option Tmp} {ty : Nat} {pos : String} {aft : Array Edge} {g : Option (Nat × Bool)} {t : Nat} {x : Operand} {p q : PV} {rn : List Nat} {ti : TI} {ag : Option Nat} :
   OpdO γ S x p → look T t = some ti → ti.agg = ag → LoadR S ag p rn q → Rule γ S ⟨dst, .load t x, ty, pos, aft, g⟩ rn ⟨q, []⟩
 | indexAddr {dst : Option Tmp} {ty : Nat} {pos : String} {aft : Array Edge} {g : Option (Nat × Bool)} {t e : Nat} {x y : Operand} {p q : PV} {rn : List Nat} {ti ei : TI} {td : TD} {k : IntKind} {i : Int} {sz : Nat} :
   OpdO γ S x p → OpdO γ S y (.v (.int k i)) → look T t = some ti → ti.d = td → td.elem = some e → look T e = some ei → ei.size = sz → IdxR S td sz p i rn q → Rule γ S ⟨dst, .indexAddr t x y, ty, pos, aft, g⟩ rn ⟨q, []⟩
 | binOp {dst : Option Tmp} {ty : Nat} {pos : String} {aft : Array Edge} {g : Option (Nat × Bool)} {op : BinOp} {t t' : TypeId} {x y : Operand} {p q r : PV} {rn : List Nat} :
   OpdO γ S x p → OpdO γ S y q → BinR T S t op p q rn r → Rule γ S ⟨dst, .binOp op t x y t', ty, pos, aft, g⟩ rn ⟨r, []⟩
 | unOp {dst : Option Tmp} {ty : Nat} {pos : String} {aft : Array Edge} {g : Option (Nat × Bool)} {op : UnOp} {t : TypeId} {x : Operand} {p q : PV} : OpdO γ S x p → UnR op p q → Rule γ S ⟨dst, .unOp op t x, ty, pos, aft, g⟩ [] ⟨q, []⟩
 | convert {dst : Option Tmp} {ty : Nat} {pos : String} {aft : Array Edge} {g : Option (Nat × Bool)} {s t : TypeId} {x : Operand} {p q : PV} {rn : List Nat} {si ti : TI} {sd td : TD} :
   OpdO γ S x p → look T s = some si → si.d = sd → look T t = some ti → ti.d = td → ConvR S sd td p rn q → Rule γ S ⟨dst, .convert s t x, ty, pos, aft, g⟩ rn ⟨q, []⟩
 | len {dst : Option Tmp} {ty : Nat} {pos : String} {aft : Array Edge} {g : Option (Nat × Bool)} {t : TypeId} {x : Operand} {p : PV} {n : Int} {rn : List Nat} {ti : TI} {td : TD} :
   OpdO γ S x p → look T t = some ti → ti.d = td → LenR S td p rn n → Rule γ S ⟨dst, .call { callee := .builtin .len, args := #[x], argTypes := #[t] }, ty, pos, aft, g⟩ rn ⟨iV n, []⟩
 | makeFunc {dst : Option Tmp} {ty : Nat} {pos : String} {aft : Array Edge} {g : Option (Nat × Bool)} {fn : Fn} {xs ys : Array Operand} {ps qs : List PV} :
   OpdsO γ S xs.toList ps → OpdsO γ S ys.toList qs → Rule γ S ⟨dst, .makeFunc fn xs ys, ty, pos, aft, g⟩ [] ⟨.clo fn ps qs, []⟩
 | extract {dst : Option Tmp} {ty : Nat} {pos : String} {aft : Array Edge} {g : Option (Nat × Bool)} {x : Operand} {i : Nat} {ps : List PV} {p : PV} : OpdO γ S x (.tup ps) → nth ps i = some p → Rule γ S ⟨dst, .extract x i, ty, pos, aft, g⟩ [] ⟨p, []⟩
 | field {dst : Option Tmp} {ty : Nat} {pos : String} {aft : Array Edge} {g : Option (Nat × Bool)} {s f ft sz off : Nat} {x : Operand} {cs : List PV} {q : PV} {ti fi : TI} {fs : List (Nat × Nat × TypeId)} {ag : Option Nat} :
   OpdO γ S x (.agg cs) → look T s = some ti → ti.d = .struct fs → fs[f]? = some (off, sz, ft) → Nat.beq sz 0 = false → look T ft = some fi → fi.agg = ag → PartR cs off ag q → Rule γ S ⟨dst, .field s x f, ty, pos, aft, g⟩ [] ⟨q, []⟩
 | index {dst : Option Tmp} {ty : Nat} {pos : String} {aft : Array Edge} {g : Option (Nat × Bool)} {t : TypeId} {x y : Operand} {l : List UInt8} {k : IntKind} {i : Int} {ti : TI} :
   OpdO γ S x (sV l) → OpdO γ S y (.v (.int k i)) → look T t = some ti → ti.d = .str → Side (0 ≤ i ∧ i < l.length) → Rule γ S ⟨dst, .index t x y, ty, pos, aft, g⟩ [] ⟨.v (.int .u8 ((l.getD i.toNat 0).toNat : Int)), []⟩
 | slice {dst : Option Tmp} {ty : Nat} {pos : String} {aft : Array Edge} {g : Option (Nat × Bool)} {t : TypeId} {x : Operand} {lo hi : Option Operand} {lo' hi' : Option Int} {p q : PV} {rn : List Nat} {ti : TI} {td : TD} :
   OpdO γ S x p → OptI γ S lo lo' → OptI γ S hi hi' → look T t = some ti → ti.d = td → SliceR T S lo' hi' td p rn q → Rule γ S ⟨dst, .slice t x lo hi none, ty, pos, aft, g⟩ rn ⟨q, []⟩
 | box {k ty : Nat} {pos : String} {aft : Array Edge} {g : Option (Nat × Bool)} {elem : TypeId} {x : Operand} {p : PV} : OpdO γ S x p → S.obj k = none → rowOk p = true → Rule γ S ⟨some k, .box elem x, ty, pos, aft, g⟩ [k] ⟨.ref k 0, [(k, .box p.cells)]⟩
 | alloc {k ty : Nat} {pos : String} {aft : Array Edge} {g : Option (Nat × Bool)} {elem : TypeId} {ti : TI} {zs : List Value} : look T elem = some ti → ti.zero = some zs → S.obj k = none → Rule γ S ⟨some k, .alloc elem, ty, pos, aft, g⟩ [k] ⟨.ref k 0, [(k, .box (zs.map .v))]⟩
 | buildSlice {ty : Nat} {pos : String} {aft : Array Edge} {g : Option (Nat × Bool)} {k t e n : Nat} {parts : Array (Nat × Operand)} {ps : List PV} {ti ei : TI} {zs : List Value} :
   OpdsO γ S (parts.toList.map (·.2)) ps → inRow 0 parts.toList = true → parts.toList.length = n → look T t = some ti → ti.d = .slice e → look T e = some ei → ei.zero = some zs → zs.length = ei.size → rowsOk ei.size ps = true →
   Nat.ble (n * ei.size) 16777216 = true → S.obj k = none → Rule γ S ⟨some k, .buildSlice t n parts, ty, pos, aft, g⟩ [k] ⟨.osl k 0 n n, [(k, .arr ei.size false ps)]⟩
 | build {dst : Option Tmp} {ty : Nat} {pos : String} {aft : Array Edge} {g : Option (Nat × Bool)} {t : TypeId} {parts : Array (Nat × Operand)} {ps es : List PV} {ti : TI} {fs : List (Nat × Nat × TypeId)} {zs : List Value} :
   OpdsO γ S (parts.toList.map (·.2)) ps → look T t = some ti → ti.d = .struct fs → ti.zero = some zs → fs.all (fun x => !Nat.beq x.2.1 0) = true → FillP fs (parts.toList.map (·.1)) ps (zs.map .v) es → Rule γ S ⟨dst, .build t parts, ty, pos, aft, g⟩ [] ⟨.agg es, []⟩
 | store {ty : Nat} {pos : String} {aft : Array Edge} {g : Option (Nat × Bool)} {t : TypeId} {x y : Operand} {p v : PV} {o : Nat} {ob : SObj} {ti : TI} :
   OpdO γ S x p → OpdO γ S y v → look T t = some ti → Nat.beq v.cells.length ti.size = true → rowOk v = true → cellsOkL v.cells = true → StoreR S p v.cells o ob → Rule γ S ⟨none, .store t x y, ty, pos, aft, g⟩ [o] ⟨.v undef, [(o, ob)]⟩
 | append {ty : Nat} {pos : String} {aft : Array Edge} {g : Option (Nat × Bool)} {k t t2 e : Nat} {x y : Operand} {p q : PV} {o : Nat} {isnil : Bool} {es xs : List PV} {rn : List Nat} {ti ti2 ei : TI} {td2 : TD} {zs : List Value} {sz by_ : Nat} :
   OpdO γ S x p → OpdO γ S y q → look T t = some ti → ti.d = .slice e → look T e = some ei → ei.size = sz → ei.bytes = by_ → ei.zero = some zs → Nat.beq zs.length sz = true → look T t2 = some ti2 → ti2.d = td2 →
   DstR S k sz p o isnil es → SrcR S td2 sz q rn xs → Side (cellsOkL (cellsOf xs) = true) → Side ((es.length + xs.length) * by_ ≤ 140737488355328) → Side (es.length + xs.length ≤ 9223372036854775807) →
   Rule γ S ⟨some k, .call { callee := .builtin .append, args := #[x, y], argTypes := #[t, t2] }, ty, pos, aft, g⟩ (o :: rn) ⟨.osl o 0 (es ++ xs).length (es ++ xs).length, [(o, .arr sz (isnil && xs.isEmpty) (es ++ xs))]⟩
 | sem {o : Oper} {rn : List Nat} {d : Delta} : (γ = true → FStep P o S rn d) → Rule γ S o rn d
theorem Rule.sound {P : Program} [Globs P] {T : Tbl} (hT : TOk P T) {γ : Bool} {S : St} {o : Oper} {rn : List Nat} {d : Delta} (h : Rule P T γ S o rn d) (hγ : γ = true) : FStep P o S rn d := by
 cases h with
 | move h => exact F_move hγ h
 | assign h => exact F_assign hγ h
 | pick h1 h2 h3 h4 => exact F_pick hγ h1 h2 h3 h4
 | fieldAddr h1 h2 h3 h4 h5 h6 => exact F_fieldAddr hT hγ h1 h2 h3 h4 h5 h6
 | load h1 h2 h3 h4 => exact F_load hT hγ h1 h2 h3 h4
 | indexAddr h1 h2 h3 h4 h5 h6 h7 h8 => exact F_indexAddr hT hγ h1 h2 h3 h4 h5 h6 h7 h8
 | binOp h1 h2 h3 => exact F_binOp hT hγ h1 h2 h3
 | unOp h1 h2 => exact F_unOp hγ h1 h2
 | convert h1 h2 h3 h4 h5 h6 => exact F_convert hT hγ h1 h2 h3 h4 h5 h6
 | len h1 h2 h3 h4 => exact F_len hT hγ h1 h2 h3 h4
 | makeFunc h1 h2 => exact F_makeFunc hγ h1 h2
 | extract h1 h2 => exact F_extract hγ h1 h2
 | field h1 h2 h3 h4 h5 h6 h7 h8 => exact F_field hT hγ h1 h2 h3 h4 h5 h6 h7 h8
 | index h1 h2 h3 h4 h5 => exact F_index hT hγ h1 h2 h3 h4 h5
 | slice h1 h2 h3 h4 h5 h6 => exact F_slice hT hγ h1 h2 h3 h4 h5 h6
 | box h1 h2 h3 => exact F_box hγ h1 h2 h3
 | alloc h1 h2 h3 => exact F_alloc hT h1 h2 h3
 | buildSlice h1 h2 h3 h4 h5 h6 h7 h8 h9 h10 h11 => exact F_buildSlice hT hγ h1 h2 h3 h4 h5 h6 h7 h8 h9 h10 h11
 | build h1 h2 h3 h4 h5 h6 => exact F_build hT hγ h1 h2 h3 h4 h5 h6
 | store h1 h2 h3 h4 h5 h6 h7 => exact F_store hT hγ h1 h2 h3 h4 h5 h6 h7
 | append h1 h2 h3 h4 h5 h6 h7 h8 h9 h10 h11 h12 h13 h14 h15 h16 => exact F_append hT hγ h1 h2 h3 h4 h5 h6 h7 h8 h9 h10 h11 h12 h13 h14 h15 h16
 | sem h => exact h hγ
inductive GB (S : St) (o : Oper) : Bool → List Nat → Delta → Prop
 | on {rn : List Nat} {d : Delta} : Rule P T true S o rn d → GB S o true rn d
 | off : GB S o false [] ⟨.v undef, []⟩
 | sym {γ : Bool} {rn : List Nat} {x : PV} : Rule P T γ S o rn ⟨x, []⟩ → GB S o γ rn ⟨.opt γ x, []⟩
inductive GRule (ops : Array Oper) (S : St) (o : Oper) : Option (Nat × Bool) → List Nat → Delta → Prop
 | plain {rn : List Nat} {d : Delta} : Rule P T true S o rn d → GRule ops S o none rn d
 | grd {j : Nat} {want γ : Bool} {rn : List Nat} {d : Delta} : gval ops S j want = some γ → GB P T S o γ rn d → GRule ops S o (some (j, want)) rn d
inductive Run (ops : Array Oper) : List Oper → Nat → St → List Ent → St → Prop
 | nil {k : Nat} {S : St} : Run ops [] k S [] S
 | cons {o : Oper} {r : List Oper} {k : Nat} {S S' : St} {rn : List Nat} {d : Delta} {es : List Ent} : GRule P T ops S o o.guard rn d → Run ops r (k + 1) (S.app o.dst d) es S' → Run ops (o :: r) k S ((k, rn, d) :: es) S'
theorem GRule.sound {P : Program} [Globs P] {T : Tbl} (hT : TOk P T) {ops : Array Oper} {S : St} {o : Oper} {rn : List Nat} {d : Delta} {g : Option (Nat × Bool)} (hg : o.guard = g) (h : GRule P T ops S o g rn d) : GStep P ops o S rn d := by
 cases h with
 | plain h => exact .plain hg (h.sound hT rfl)
 | grd hv hb =>
  cases hb with
  | on h => exact .on hg hv rfl (h.sound hT rfl)
  | off => exact .off hg hv rfl
  | sym h => exact .sym hg hv (fun e => h.sound hT e)
theorem Run.sound {P : Program} [Globs P] {T : Tbl} (hT : TOk P T) {ops : Array Oper} : ∀ {l : List Oper} {k : Nat} {S S' : St} {es : List Ent}, Run P T ops l k S es S' → Exec P ops l k S es S'
 | [], _, _, _, _, h => by cases h; exact .nil
 | o :: r, _, _, _, _, h => by cases h with | cons h1 h2 => exact .cons (h1.sound hT rfl) (Run.sound hT h2)
end
section
variable {P : Program} {T : Tbl} {nt : Nat} {S S' S2 : St} {Q : Exit → St → Prop}
theorem Trip.reg [Globs P] {ops : List Oper} {id : Nat} {es : List Ent} (hT : TOk P T) (h : Run P T ops.toArray ops 0 S es S') (hb : dstsBelow ops.toArray nt = true) (hQ : Q .normal S') : Trip P nt S (.region id ops.toArray false) Q :=
 Trip.region (h.sound hT) hb hQ
theorem Trip.drw [Globs P] {ops : List Oper} {id : Nat} {es : List Ent} (hT : TOk P T) (hmo : P.follows .mixedOrders = true) (h : Run P T ops.toArray ops 0 S es S') (hb : dstsBelow ops.toArray nt = true) (hd : drawOk ops.toArray (es.map Ent.names) = true) (hQ : Q .normal S') : Trip P nt S (.region id ops.toArray true) Q :=
 Trip.draw hmo (h.sound hT) hb hd hQ
theorem Trip.regk [Globs P] (S2 : St) {ops : List Oper} {id : Nat} {es : List Ent} {y : Code} (hT : TOk P T) (h : Run P T ops.toArray ops 0 S es S') (hb : dstsBelow ops.toArray nt = true) (hw : Weak nt S' S2) (hQ : Trip P nt S2 y Q) : Trip P nt S (.seq (.region id ops.toArray false) y) Q :=
 Trip.seq (Trip.reg hT h hb (Trip.weak hw hQ))
theorem Trip.drwk [Globs P] (S2 : St) {ops : List Oper} {id : Nat} {es : List Ent} {y : Code} (hT : TOk P T) (hmo : P.follows .mixedOrders = true) (h : Run P T ops.toArray ops 0 S es S') (hb : dstsBelow ops.toArray nt = true) (hd : drawOk ops.toArray (es.map Ent.names) = true) (hw : Weak nt S' S2)
  (hQ : Trip P nt S2 y Q) : Trip P nt S (.seq (.region id ops.toArray true) y) Q :=
 Trip.seq (Trip.drw hT hmo h hb hd (Trip.weak hw hQ))
end
theorem conv_plain_all {S : St} {σ : List (Nat × Nat)} {B : List Nat} : (∀ p, plain p = true → ConvP S σ B p p) ∧ (∀ ps, plainL ps = true → ConvL S σ B ps ps) := by
 have c : ∀ p, plain p = true → ConvP S σ B p p := by
  intro p
  refine @PV.rec (fun p => plain p = true → ConvP S σ B p p) (fun ps => plainL ps = true → ConvL S σ B ps ps) ?_ ?_ ?_ ?_ ?_ ?_ ?_ ?_ ?_ ?_ ?_ ?_ ?_ ?_ ?_ ?_ ?_ p
  ·exact fun x _ => .v
  ·exact fun cs ih h => .agg (ih (by simpa [plain] using h))
  ·exact fun cs ih h => .tup (ih (by simpa [plain] using h))
  ·exact fun nl sz es _ _ => .sl
  ·exact fun cs _ _ => .rp
  ·exact fun o off h => by simp [plain] at h
  ·exact fun o i off n h => by simp [plain] at h
  ·exact fun o off len n h => by simp [plain] at h
  ·exact fun fn f cc i1 i2 h => by simp [plain] at h; exact .clo (i1 h.1) (i2 h.2)
  ·exact fun t x ih h => .ifc (ih (by simpa [plain] using h))
  ·exact fun b x _ h => by simp [plain] at h
  ·exact fun _ => .dead
  ·exact fun o h => by simp [plain] at h
  ·exact fun _ _ _ _ _ => .mp
  ·exact fun _ _ _ => .it
  ·exact fun _ => .nil
  ·exact fun c cs i1 i2 h => by simp [plainL] at h; exact .cons (i1 h.1) (i2 h.2)
 refine ⟨c, fun ps => ?_⟩
 induction ps with
 | nil => exact fun _ => .nil
 | cons d ds ih => exact fun h => by simp [plainL] at h; exact .cons (c d h.1) (ih h.2)
theorem plainL_append : ∀ {a b : List PV}, plainL a = true → plainL b = true → plainL (a ++ b) = true
 | [], _, _, h => h
 | c :: cs, _, h, k => by simp only [plainL, Bool.and_eq_true, List.cons_append] at h ⊢; exact ⟨h.1, plainL_append h.2 k⟩
theorem plainL_map {α : Type} (f : α → PV) (h : ∀ x, plain (f x) = true) (l : List α) : plainL (l.map f) = true := plainL_of fun p hp => by
 obtain ⟨x, _, rfl⟩ := List.mem_map.1 hp
 exact h x
theorem cellsOk_map {α : Type} (f : α → PV) (h : ∀ x, cellsOkL (f x).cells = true) (l : List α) : cellsOkL (cellsOf (l.map f)) = true := by
 unfold cellsOkL
 rw [List.all_eq_true]
 intro c hc
 unfold cellsOf at hc
 obtain ⟨e, he, hce⟩ := List.mem_flatMap.1 hc
 obtain ⟨x, _, rfl⟩ := List.mem_map.1 he
 exact (List.all_eq_true.1 (h x)) c hce
theorem idx_map {α : Type} [Inhabited α] (f : α → PV) (l : List α) (i : Nat) (h : i < l.length) : (l.map f)[i]? = some (f l[i]!) := by
 rw [List.getElem?_map, List.getElem?_eq_getElem h]
 simp [getElem!_pos l i h]
end Go.Sym
namespace Go.Sym
open Go.RowKit
theorem plain_uses_all {ns : List Nat} : (∀ p, plain p = true → usesOnly ns p = true) ∧ (∀ ps, plainL ps = true → usesOnlyL ns ps = true) := by
 have c : ∀ p, plain p = true → usesOnly ns p = true := by
  intro p
  refine @PV.rec (fun p => plain p = true → usesOnly ns p = true) (fun ps => plainL ps = true → usesOnlyL ns ps = true) ?_ ?_ ?_ ?_ ?_ ?_ ?_ ?_ ?_ ?_ ?_ ?_ ?_ ?_ ?_ ?_ ?_ p
  ·exact fun _ _ => rfl
  ·exact fun cs ih h => by simp only [plain, usesOnly] at h ⊢; exact ih h
  ·exact fun cs ih h => by simp only [plain, usesOnly] at h ⊢; exact ih h
  ·exact fun _ _ _ _ _ => rfl
  ·exact fun _ _ _ => rfl
  ·exact fun o off h => by simp [plain] at h
  ·exact fun o i off n h => by simp [plain] at h
  ·exact fun o off len n h => by simp [plain] at h
  ·exact fun fn f cc i1 i2 h => by simp only [plain, usesOnly, Bool.and_eq_true] at h ⊢; exact ⟨i1 h.1, i2 h.2⟩
  ·exact fun t x ih h => by simp only [plain, usesOnly] at h ⊢; exact ih h
  ·exact fun b x _ h => by simp [plain] at h
  ·exact fun _ => rfl
  ·exact fun o h => by simp [plain] at h
  ·exact fun _ _ _ _ _ => rfl
  ·exact fun _ _ _ => rfl
  ·exact fun _ => rfl
  ·exact fun c cs i1 i2 h => by simp only [plainL, usesOnlyL, Bool.and_eq_true] at h ⊢; exact ⟨i1 h.1, i2 h.2⟩
 refine ⟨c, fun ps => ?_⟩
 induction ps with
 | nil => exact fun _ => rfl
 | cons d ds ih => exact fun h => by simp only [plainL, usesOnlyL, Bool.and_eq_true] at h ⊢; exact ⟨c d h.1, ih h.2⟩
def idσ : List Nat → List (Nat × Nat)
 | [] => []
 | n :: r => (n, n) :: idσ r
theorem look_idσ : ∀ {l : List Nat} {n m : Nat}, look (idσ l) n = some m → m = n ∧ n ∈ l
 | [], n, m, h => by simp [idσ, look] at h
 | k :: r, n, m, h => by
  simp only [idσ] at h
  rw [look_cons] at h
  split at h
  ·rename_i e; subst e; simp at h; exact ⟨h.symm, by simp⟩
  ·obtain ⟨h1, h2⟩ := look_idσ h; exact ⟨h1, by simp [h2]⟩
inductive TurnT (S : St) (σ : List (Nat × Nat)) (B : List Nat) : List (Nat × PV) → Prop
 | nil : TurnT S σ B []
 | cons {t : Nat} {p q : PV} {r : List (Nat × PV)} : S.get t = some q → ConvP S σ B q p → TurnT S σ B r → TurnT S σ B ((t, p) :: r)
inductive TurnO (S : St) (σ : List (Nat × Nat)) (B : List Nat) : List (Nat × SObj) → Prop
 | nil : TurnO S σ B []
 | box {n : Nat} {cs ds : List PV} {r : List (Nat × SObj)} : S.obj n = some (.box cs) → ConvL S σ B cs ds → TurnO S σ B r → TurnO S σ B ((n, .box ds) :: r)
 | arr {n sz : Nat} {nl : Bool} {es : List PV} {r : List (Nat × SObj)} : S.obj n = some (.arr sz nl es) → Side (plainL es = true) → TurnO S σ B r → TurnO S σ B ((n, .arr sz nl es) :: r)
 | gone {n : Nat} {r : List (Nat × SObj)} : S.obj n = some .gone → TurnO S σ B r → TurnO S σ B ((n, .gone) :: r)
 | map {n : Nat} {ks : List Value} {vs : List PV} {r : List (Nat × SObj)} : S.obj n = some (.map ks vs) → Side (plainL vs = true) → TurnO S σ B r → TurnO S σ B ((n, .map ks vs) :: r)
 | arrC {n sz : Nat} {nl : Bool} {es ds : List PV} {r : List (Nat × SObj)} : S.obj n = some (.arr sz nl es) → ConvL S σ B (cellsOf es) (cellsOf ds) → Side (es.length = ds.length ∧ ∀ e ∈ ds, e.cells.length = sz) → TurnO S σ B r → TurnO S σ B ((n, .arr sz nl ds) :: r)
section
variable {P : Program} {T : Tbl} {fr : Fr} {S S' : St} {L L' : LMap} {a : Act} {w : World} {F F' : Nat → Prop}
theorem TurnT.get {σ : List (Nat × Nat)} {B : List Nat} : ∀ {l : List (Nat × PV)}, TurnT S σ B l → ∀ t p, (t, p) ∈ l → ∃ q, S.get t = some q ∧ ConvP S σ B q p
 | _, .nil, t, p, h => by simp at h
 | _, .cons h1 h2 h3, t, p, h => by
  rcases List.mem_cons.1 h with h | h
  ·cases h; exact ⟨_, h1, h2⟩
  ·exact h3.get t p h
theorem TurnO.get {σ : List (Nat × Nat)} {B : List Nat} : ∀ {l : List (Nat × SObj)}, TurnO S σ B l → ∀ n ob, (n, ob) ∈ l → ∃ ob', S.obj n = some ob' ∧ ((∃ cs ds, ob' = .box cs ∧ ob = .box ds ∧ ConvL S σ B cs ds) ∨ (∃ sz nl es ds, ob' = .arr sz nl es ∧ ob = .arr sz nl ds ∧ ((es = ds ∧ plainL es = true) ∨ (ConvL S σ B (cellsOf es) (cellsOf ds) ∧ es.length = ds.length ∧ ∀ e ∈ ds, e.cells.length = sz))) ∨ (ob' = .gone ∧ ob = .gone) ∨ ∃ ks vs, ob' = .map ks vs ∧ ob = .map ks vs ∧ plainL vs = true)
 | _, .nil, t, p, h => by simp at h
 | _, .box h1 h2 h3, t, p, h => by
  rcases List.mem_cons.1 h with h | h
  ·cases h; exact ⟨_, h1, .inl ⟨_, _, rfl, rfl, h2⟩⟩
  ·exact h3.get t p h
 | _, .arr h1 h2 h3, t, p, h => by
  rcases List.mem_cons.1 h with h | h
  ·cases h; exact ⟨_, h1, .inr (.inl ⟨_, _, _, _, rfl, rfl, .inl ⟨rfl, h2⟩⟩)⟩
  ·exact h3.get t p h
 | _, .arrC h1 h2 h4 h3, t, p, h => by
  rcases List.mem_cons.1 h with h | h
  ·cases h; exact ⟨_, h1, .inr (.inl ⟨_, _, _, _, rfl, rfl, .inr ⟨h2, h4⟩⟩)⟩
  ·exact h3.get t p h
 | _, .gone h1 h3, t, p, h => by
  rcases List.mem_cons.1 h with h | h
  ·cases h; exact ⟨_, h1, .inr (.inr (.inl ⟨rfl, rfl⟩))⟩
  ·exact h3.get t p h
 | _, .map h1 h2 h3, t, p, h => by
  rcases List.mem_cons.1 h with h | h
  ·cases h; exact ⟨_, h1, .inr (.inr (.inr ⟨_, _, rfl, rfl, h2⟩))⟩
  ·exact h3.get t p h
theorem mem_look {α : Type} : ∀ {l : List (Nat × α)} {k : Nat} {x : α}, (k, x) ∈ l → ∃ y, look l k = some y
 | [], _, _, h => by simp at h
 | (k', o') :: r, k, x, h => by
  rw [look_cons]
  by_cases e : k' = k
  ·exact ⟨o', by simp [e]⟩
  ·rw [if_neg e]
   rcases List.mem_cons.1 h with h | h
   ·cases h; exact absurd rfl e
   ·exact mem_look h
theorem Weak.turn {nt : Nat} (B : List Nat) (hp : S.o.all (fun x => Nat.blt x.1 PN || (S'.o.map (·.1)).contains x.1) = true) (hB : B.all (fun o => !(S'.o.map (·.1)).contains o) = true)
  (ht : TurnT S (idσ (S'.o.map (·.1))) B S'.t) (ho : TurnO S (idσ (S'.o.map (·.1))) B S'.o) : Weak nt S S' := by
 intro fr hnt L a w hR
 have hM := hR.mem
 let ns := S'.o.map (·.1)
 let L' : LMap := fun n => if ns.contains n then L n else none
 have hL : ∀ n, ns.contains n = true → ∀ l, L n = some l → L' n = some l := fun n hn l hl => by simp only [L', hn, if_true]; exact hl
 have hL2 : ∀ n l, L' n = some l → L n = some l ∧ ns.contains n = true := fun n l h => by
  simp only [L'] at h
  split at h
  ·rename_i hc; exact ⟨h, hc⟩
  ·simp at h
 have hF : ∀ b, ¬ fr.F L b → ¬ fr.F L' b := fun b hn h => by
  rcases h with h | ⟨n, l, h1, h2⟩
  ·exact hn (.inl h)
  ·exact hn (.inr ⟨n, l, (hL2 n l h1).1, h2⟩)
 have hBF : ∀ o, B.contains o = true → ∀ l b, L o = some l → l.blk = some b → ¬ fr.F L' b := fun o hoB l b hl hb h => by
  have hno := (List.all_eq_true.1 hB) o (by simpa using hoB)
  rcases h with h | ⟨n, l', h1, h2⟩
  ·exact (hM.place o l b hl hb).1 h
  ·obtain ⟨k1, k2⟩ := hL2 n l' h1
   have := hM.inj o n l l' b hl k1 hb h2
   subst this
   simp only [Bool.not_eq_true'] at hno
   exact absurd k2 (by show ¬ (S'.o.map (·.1)).contains o = true; rw [hno]; simp)
 have hσ : ∀ o o', look (idσ ns) o = some o' → ∀ l, L o = some l → L' o' = some l := fun o o' h l hl => by
  obtain ⟨rfl, h2⟩ := look_idσ h
  exact hL _ (by simpa using h2) l hl
 have hcv := conv_rep_all (L' := L') (F' := fr.F L') hM (σ := idσ ns) (B := B) hF hBF hσ
 have hcv1 := fun {p q} h x => @hcv.1 p q h x
 have hcvL : ∀ {cs ds : List PV}, ConvL S (idσ ns) B cs ds → ∀ b off, CellsAt w (fr.F L) L cs b off → CellsAt w (fr.F L') L' ds b off := by
  intro cs ds h
  induction ds generalizing cs with
  | nil => intro b off _ j c hj; simp at hj
  | cons d ds ih =>
   cases h with
   | cons g1 g2 =>
    intro b off hc j c hj
    cases j with
    | zero =>
     simp at hj; subst hj
     obtain ⟨x, k1, k2, k3⟩ := hc 0 _ rfl
     exact ⟨x, k1, k2, hcv1 g1 x k3⟩
    | succ j =>
     obtain ⟨x, k1, k2, k3⟩ := ih g2 b (off + 1) (fun j' c' hj' => by
      obtain ⟨y, m1, m2, m3⟩ := hc (j' + 1) c' (by simpa using hj')
      exact ⟨y, by rw [show off + 1 + j' = off + (j' + 1) by omega]; exact m1, by rw [show off + 1 + j' = off + (j' + 1) by omega]; exact m2, m3⟩) j c (by simpa using hj)
     exact ⟨x, by rw [show off + (j + 1) = off + 1 + j by omega]; exact k1, by rw [show off + (j + 1) = off + 1 + j by omega]; exact k2, k3⟩
 refine ⟨L', ⟨fun n ob hn => ?_, fun n l hn => ?_, fun n n' l l' b hn hn' hb hb' => hM.inj n n' l l' b (hL2 n l hn).1 (hL2 n' l' hn').1 hb hb', fun n l b hn hb => hM.place n l b (hL2 n l hn).1 hb, fun n l b hn hb => hM.kind n l b (hL2 n l hn).1 hb, hM.parLt, hM.xLt, hM.frame, fun n l h => ?_⟩, hR.nt, hR.defers, fun t p hp => ?_⟩
 ·have hmem := look_mem hn
  have hns : ns.contains n = true := by
   simp only [ns, List.contains_iff_mem, List.mem_map]
   exact ⟨_, hmem, rfl⟩
  obtain ⟨ob', hn2, hcase⟩ := ho.get n ob hmem
  obtain ⟨l, h1, h2⟩ := hM.objs n ob' hn2
  refine ⟨l, hL n hns l h1, ?_⟩
  rcases hcase with ⟨cs, ds, rfl, rfl, hc⟩ | ⟨sz, nl, es, _, rfl, rfl, ⟨rfl, hpl⟩ | ⟨hcv, hlen, hds⟩⟩ | ⟨rfl, rfl⟩ | ⟨ks, vs, rfl, rfl, hpl⟩
  ·cases l with
   | box b o' n' => exact ⟨h2.1.trans hc.get.1, hcvL hc _ _ h2.2⟩
   | arr => exact h2.elim
   | gone => exact h2.elim
   | map => exact h2.elim
  ·cases l with
   | arr base n' cap sz' =>
    cases base with
    | none => exact h2
    | some bo =>
     obtain ⟨k1, k2, k3, k4, k5, k6, k7⟩ := h2
     refine ⟨k1, k2, k3, k4, k5, fun j c hj => ?_, k7⟩
     obtain ⟨x, m1, m2, m3⟩ := k6 j c hj
     obtain ⟨e, he, hce⟩ := List.mem_flatMap.1 (List.mem_of_getElem? hj)
     exact ⟨x, m1, m2, (m3.plain (plain_cells (plainL_mem hpl e he) c hce) L').mono (fun b s hx hn => ⟨hx, hF b hn⟩) (LExt.refl _)⟩
   | box => exact h2.elim
   | gone => exact h2.elim
   | map => exact h2.elim
  ·cases l with
   | arr base n' cap sz' =>
    cases base with
    | none => exact ⟨h2.1, h2.2.1.trans hlen, h2.2.2.1, h2.2.2.2.1, hds, h2.2.2.2.2.2⟩
    | some bo =>
     obtain ⟨k1, k2, k3, k4, k5, k6, k7⟩ := h2
     exact ⟨k1, k2.trans hlen, k3, k4, hds, hcvL hcv _ _ k6, k7⟩
   | box => exact h2.elim
   | gone => exact h2.elim
   | map => exact h2.elim
  ·cases l <;> exact h2
  ·cases l with
   | map b =>
    obtain ⟨es, clock, k1, k2, k3, k4, k5⟩ := h2
    exact ⟨es, clock, k1, k2, (rep_plain_all.2 k3 hpl L').mono (fun b s hx hn => ⟨hx, hF b hn⟩) (LExt.refl _), k4, k5⟩
   | _ => exact h2.elim
 ·obtain ⟨h1, h2⟩ := hL2 n l hn
  simp only [ns, List.contains_iff_mem, List.mem_map] at h2
  obtain ⟨⟨k, ob⟩, hmem, rfl⟩ := h2
  exact mem_look hmem
 ·obtain ⟨l', h1, h2⟩ := hM.lext n l h
  obtain ⟨ob, hob⟩ := hM.dom n l' h1
  have hmem := look_mem hob
  have hpn := hnt.2 n l h
  have := (List.all_eq_true.1 hp) _ hmem
  simp only [Bool.or_eq_true] at this
  rcases this with h3 | h3
  ·rw [Nat.blt_eq] at h3; omega
  ·exact ⟨l', hL n h3 l' h1, h2⟩
 ·have hmem := look_mem hp
  obtain ⟨q, g1, g2⟩ := ht.get t p hmem
  obtain ⟨x, h1, h2⟩ := hR.vals t q g1
  exact ⟨x, h1, hcv1 g2 x h2⟩
inductive AdP (o : Nat) : PV → PV → Prop
 | same {p : PV} : AdP o p p
 | nilS : AdP o nilS (.osl o 0 0 0)
 | sl {sz : Nat} : AdP o (.sl true sz []) (.osl o 0 0 0)
inductive AdL (o : Nat) : List PV → List PV → Prop
 | nil : AdL o [] []
 | cons {p q : PV} {ps qs : List PV} : AdP o p q → AdL o ps qs → AdL o (p :: ps) (q :: qs)
inductive AdT (S : St) (o : Nat) : List (Nat × PV) → Prop
 | nil : AdT S o []
 | cons {t : Nat} {p q : PV} {r : List (Nat × PV)} : S.get t = some q → AdP o q p → AdT S o r → AdT S o ((t, p) :: r)
inductive AdO (S : St) (o : Nat) : List (Nat × SObj) → Prop
 | nil : AdO S o []
 | box {n : Nat} {cs ds : List PV} {r : List (Nat × SObj)} : S.obj n = some (.box cs) → AdL o cs ds → AdO S o r → AdO S o ((n, .box ds) :: r)
 | arr {n sz : Nat} {nl : Bool} {es : List PV} {r : List (Nat × SObj)} : S.obj n = some (.arr sz nl es) → AdO S o r → AdO S o ((n, .arr sz nl es) :: r)
 | gone {n : Nat} {r : List (Nat × SObj)} : S.obj n = some .gone → AdO S o r → AdO S o ((n, .gone) :: r)
 | map {n : Nat} {ks : List Value} {vs : List PV} {r : List (Nat × SObj)} : S.obj n = some (.map ks vs) → AdO S o r → AdO S o ((n, .map ks vs) :: r)
 | arrC {n sz : Nat} {nl : Bool} {es ds : List PV} {r : List (Nat × SObj)} : S.obj n = some (.arr sz nl es) → AdL o (cellsOf es) (cellsOf ds) → Side (es.length = ds.length ∧ ∀ e ∈ ds, e.cells.length = sz) → AdO S o r → AdO S o ((n, .arr sz nl ds) :: r)
theorem AdP.rep {o : Nat} {p q : PV} (h : AdP o p q) {x : Value} (hx : Rep w F L p x) (hE : Ext w F w F') (hl : LExt L L') {sz : Nat} (ho : L' o = some (.arr none 0 0 sz)) : Rep w F' L' q x := by
 cases h with
 | same => exact hx.mono hE hl
 | nilS =>
  have := hx.inv_v
  subst this
  exact .osl ho ⟨Nat.le_refl _, fun _ => ⟨by omega, rfl⟩⟩ ⟨_, _, _, rfl⟩
 | sl => cases hx with | slNil => exact .osl ho ⟨Nat.le_refl _, fun _ => ⟨by omega, rfl⟩⟩ ⟨_, _, _, rfl⟩
theorem AdL.length {o : Nat} : ∀ {ps qs : List PV}, AdL o ps qs → ps.length = qs.length
 | _, _, .nil => rfl
 | _, _, .cons _ h => by simp [h.length]
theorem AdL.get {o : Nat} : ∀ {ps qs : List PV}, AdL o ps qs → ∀ (j : Nat) q, qs[j]? = some q → ∃ p, ps[j]? = some p ∧ AdP o p q
 | _, _, .nil, j, q, h => by simp at h
 | _, _, .cons h1 h2, 0, q, h => by simp at h; subst h; exact ⟨_, rfl, h1⟩
 | _, _, .cons h1 h2, j + 1, q, h => by simpa using h2.get j q (by simpa using h)
theorem AdT.get {o : Nat} : ∀ {l : List (Nat × PV)}, AdT S o l → ∀ t p, (t, p) ∈ l → ∃ q, S.get t = some q ∧ AdP o q p
 | _, .nil, t, p, h => by simp at h
 | _, .cons h1 h2 h3, t, p, h => by
  rcases List.mem_cons.1 h with h | h
  ·cases h; exact ⟨_, h1, h2⟩
  ·exact h3.get t p h
theorem AdO.get {o : Nat} : ∀ {l : List (Nat × SObj)}, AdO S o l → ∀ n ob, (n, ob) ∈ l → ∃ ob', S.obj n = some ob' ∧ (ob' = ob ∨ (∃ cs ds, ob' = .box cs ∧ ob = .box ds ∧ AdL o cs ds) ∨ ∃ sz nl es ds, ob' = .arr sz nl es ∧ ob = .arr sz nl ds ∧ AdL o (cellsOf es) (cellsOf ds) ∧ es.length = ds.length ∧ ∀ e ∈ ds, e.cells.length = sz)
 | _, .nil, t, p, h => by simp at h
 | _, .box h1 h2 h3, t, p, h => by
  rcases List.mem_cons.1 h with h | h
  ·cases h; exact ⟨_, h1, .inr (.inl ⟨_, _, rfl, rfl, h2⟩)⟩
  ·exact h3.get t p h
 | _, .arrC h1 h2 h4 h3, t, p, h => by
  rcases List.mem_cons.1 h with h | h
  ·cases h; exact ⟨_, h1, .inr (.inr ⟨_, _, _, _, rfl, rfl, h2, h4⟩)⟩
  ·exact h3.get t p h
 | _, .arr h1 h3, t, p, h => by
  rcases List.mem_cons.1 h with h | h
  ·cases h; exact ⟨_, h1, .inl rfl⟩
  ·exact h3.get t p h
 | _, .gone h1 h3, t, p, h => by
  rcases List.mem_cons.1 h with h | h
  ·cases h; exact ⟨_, h1, .inl rfl⟩
  ·exact h3.get t p h
 | _, .map h1 h3, t, p, h => by
  rcases List.mem_cons.1 h with h | h
  ·cases h; exact ⟨_, h1, .inl rfl⟩
  ·exact h3.get t p h
theorem Weak.adopt {nt : Nat} (o sz : Nat) {t' : List (Nat × PV)} {o' : List (Nat × SObj)} (hno : S.obj o = none) (hp : S.o.all (fun x => (o'.map (·.1)).contains x.1) = true) (ht : AdT S o t') (ho : AdO S o o') : Weak nt S ⟨t', (o, .arr sz true []) :: o'⟩ := by
 intro fr hnt L a w hR
 have hM := hR.mem
 have hLo : L o = none := by
  cases h : L o with
  | none => rfl
  | some l => obtain ⟨ob, hob⟩ := hM.dom o l h; rw [hno] at hob; simp at hob
 let L' : LMap := L.set o (.arr none 0 0 sz)
 have hL'o : L' o = some (.arr none 0 0 sz) := by simp [L', LMap.set]
 have hL' : ∀ n, n ≠ o → L' n = L n := fun n hn => by simp [L', LMap.set, hn]
 have hext : LExt L L' := fun n l h => ⟨l, by rw [hL' n (by rintro rfl; rw [hLo] at h; simp at h)]; exact h, l.le_refl⟩
 have hb : ∀ n l b, L' n = some l → l.blk = some b → L n = some l := fun n l b h hb => by
  by_cases e : n = o
  ·subst e; rw [hL'o] at h; cases h; simp [Loc.blk] at hb
  ·rw [hL' n e] at h; exact h
 have hE : Ext w (fr.F L) w (fr.F L') := fun b s hx hn => ⟨hx, fun h => hn (by
  rcases h with h | ⟨n, l, h1, h2⟩
  ·exact .inl h
  ·exact .inr ⟨n, l, hb n l b h1 h2, h2⟩)⟩
 refine ⟨L', ⟨fun n ob hn => ?_, fun n l hn => ?_, fun n n' l l' b hn hn' hb1 hb2 => hM.inj n n' l l' b (hb _ _ _ hn hb1) (hb _ _ _ hn' hb2) hb1 hb2, fun n l b hn hb1 => hM.place n l b (hb _ _ _ hn hb1) hb1, fun n l b hn hb1 => hM.kind n l b (hb _ _ _ hn (blk_of_range hb1)) hb1, hM.parLt, hM.xLt, hM.frame, hM.lext.trans hext⟩, hR.nt, hR.defers, fun t p hp => ?_⟩
 ·have hn' : look ((o, SObj.arr sz true []) :: o') n = some ob := hn
  rw [look_cons] at hn'
  split at hn'
  ·rename_i e; subst e
   simp at hn'; subst hn'
   exact ⟨_, hL'o, rfl, rfl, Nat.le_refl _, rfl, by simp, rfl⟩
  ·rename_i e
   have hmem := look_mem hn'
   obtain ⟨ob', hn2, hcase⟩ := ho.get n ob hmem
   obtain ⟨l, h1, h2⟩ := hM.objs n ob' hn2
   refine ⟨l, by rw [hL' n (fun h => e h.symm)]; exact h1, ?_⟩
   rcases hcase with rfl | ⟨cs, ds, rfl, rfl, hc⟩ | ⟨sz', nl', es, ds, rfl, rfl, hc, hlen, hds⟩
   ·cases ob' with
    | box cs =>
     cases l with
     | box b off k => exact ⟨h2.1, fun j c hj => by obtain ⟨x, g1, g2, g3⟩ := h2.2 j c hj; exact ⟨x, g1, g2, g3.mono hE hext⟩⟩
     | arr => exact h2.elim
     | gone => exact h2.elim
     | map => exact h2.elim
    | arr sz nl es =>
     cases l with
     | arr base n' cap sz' =>
      cases base with
      | none => exact h2
      | some bo =>
       obtain ⟨k1, k2, k3, k4, k5, k6, k7⟩ := h2
       exact ⟨k1, k2, k3, k4, k5, fun j c hj => by obtain ⟨x, g1, g2, g3⟩ := k6 j c hj; exact ⟨x, g1, g2, g3.mono hE hext⟩, k7⟩
     | box => exact h2.elim
     | gone => exact h2.elim
     | map => exact h2.elim
    | gone => cases l <;> exact h2
    | map ks vs =>
     cases l with
     | map b =>
      obtain ⟨es, clock, k1, k2, k3, k4, k5⟩ := h2
      exact ⟨es, clock, k1, k2, k3.mono hE hext, k4, k5⟩
     | _ => exact h2.elim
    | arrc sz nl es cc =>
     cases l with
     | arr base n' cap sz' =>
      cases base with
      | none => exact h2
      | some bo =>
       obtain ⟨k0, k1, k2, k3, k4, k5, k6, k7⟩ := h2
       exact ⟨k0, k1, k2, k3, k4, k5, fun j c hj => by obtain ⟨x, g1, g2, g3⟩ := k6 j c hj; exact ⟨x, g1, g2, g3.mono hE hext⟩, k7⟩
     | box => exact h2.elim
     | gone => exact h2.elim
     | map => exact h2.elim
   ·cases l with
    | box b off k =>
     refine ⟨h2.1.trans hc.length, fun j c hj => ?_⟩
     obtain ⟨p, k1, k2⟩ := hc.get j c hj
     obtain ⟨x, g1, g2, g3⟩ := h2.2 j p k1
     exact ⟨x, g1, g2, k2.rep g3 hE hext hL'o⟩
    | arr => exact h2.elim
    | gone => exact h2.elim
    | map => exact h2.elim
   ·cases l with
    | arr base n' cap sz' =>
     cases base with
     | none => exact ⟨h2.1, h2.2.1.trans hlen, h2.2.2.1, h2.2.2.2.1, hds, h2.2.2.2.2.2⟩
     | some bo =>
      obtain ⟨k1, k2, k3, k4, k5, k6, k7⟩ := h2
      refine ⟨k1, k2.trans hlen, k3, k4, hds, fun j c hj => ?_, k7⟩
      obtain ⟨p, m1, m2⟩ := hc.get j c hj
      obtain ⟨x, g1, g2, g3⟩ := k6 j p m1
      exact ⟨x, g1, g2, m2.rep g3 hE hext hL'o⟩
    | box => exact h2.elim
    | gone => exact h2.elim
    | map => exact h2.elim
 ·by_cases e : n = o
  ·subst e; exact ⟨_, by show look ((n, SObj.arr sz true []) :: o') n = _; rw [look_cons, if_pos rfl]⟩
  ·rw [hL' n e] at hn
   obtain ⟨ob, hob⟩ := hM.dom n l hn
   have := (List.all_eq_true.1 hp) _ (look_mem hob)
   simp only [List.contains_iff_mem, List.mem_map] at this
   obtain ⟨⟨k, ob2⟩, hm, rfl⟩ := this
   obtain ⟨y, hy⟩ := mem_look hm
   exact ⟨y, by show look ((o, SObj.arr sz true []) :: o') _ = _; rw [look_cons, if_neg (fun h => e h.symm)]; exact hy⟩
 ·have hmem := look_mem hp
  obtain ⟨q, g1, g2⟩ := ht.get t p hmem
  obtain ⟨x, h1, h2⟩ := hR.vals t q g1
  exact ⟨x, h1, g2.rep h2 hE hext hL'o⟩
theorem Weak.trans {nt : Nat} {S1 S2 S3 : St} (h : Weak nt S1 S2) (k : Weak nt S2 S3) : Weak nt S1 S3 := fun fr hnt L a w hR => by
 obtain ⟨L1, h1⟩ := h fr hnt L a w hR
 exact k fr hnt L1 a w h1
end
end Go.Sym
