/- A part of the proof: SymX, SymZ. -/
import Derived.Laws.BytesArg
import Derived.Test.YteailifhgfijgaaGreatDoorPart15
import Derived.Carry
import Derived.MapKept
set_option linter.unusedVariables false
set_option linter.unusedSimpArgs false
namespace Go.Sym
open Go.RowKit
section
variable {P : Program} {T : Tbl} {fr : Fr} {S S' : St} {L : LMap} {a : Act} {w : World} {γ : Bool}
variable {dst : Option Tmp} {ty : Nat} {pos : String} {aft : Array Edge} {g : Option (Nat × Bool)}
inductive ElemZ : List Value → PV → Prop
 | one {z : Value} : ElemZ [z] (.v z)
 | agg {zs : List Value} : ElemZ zs (.agg (zs.map .v))
theorem ElemZ.cells {zs : List Value} {p : PV} (h : ElemZ zs p) : p.cells = zs.map .v := by cases h <;> rfl
theorem madeCells_flat (zs : List Value) : ∀ n : Nat, zs ≠ [] → (madeCells zs.toArray (n * zs.length)).toList = (List.replicate n zs).flatMap id := by
 intro n h0
 have hz : 0 < zs.length := List.length_pos_iff.2 h0
 refine List.ext_getElem ?_ ?_
 ·simp [madeCells, List.flatMap, List.length_flatten]
 ·intro i h1 h2
  have e : (madeCells zs.toArray (n * zs.length)).toList[i] = zs[i % zs.length]! := by simp [madeCells]
  rw [e]
  clear h1 e
  induction n generalizing i with
  | zero => simp at h2
  | succ n ih =>
   simp only [List.replicate_succ, List.flatMap_cons, id] at h2 ⊢
   by_cases h : i < zs.length
   ·rw [List.getElem_append_left h, Nat.mod_eq_of_lt h, getElem!_pos zs i h]
   ·rw [List.getElem_append_right (by omega)]
    rw [← ih (i - zs.length) (by rw [List.length_append] at h2; omega)]
    rw [Nat.mod_eq_sub_mod (by omega)]
theorem F_makeSlice [Globs P] (hT : TOk P T) (hγ : γ = true) {k t e : Nat} {x y : Operand} {kl kc : IntKind} {n c : Int} {ti ei : TI} {zs : List Value} {p : PV} {sz by_ : Nat} (hx : OpdO γ S x (.v (.int kl n))) (hy : OpdO γ S y (.v (.int kc c)))
  (hl : look T t = some ti) (hd : ti.d = .slice e) (hle : look T e = some ei) (hz : ei.zero = some zs) (hsz : ei.size = sz) (hby : ei.bytes = by_) (hzs : Nat.beq zs.length sz = true) (hz0 : Nat.beq sz 0 = false) (hp : ElemZ zs p)
  (hb : Side (0 ≤ n ∧ n ≤ c ∧ (by_ : Int) * c ≤ 281474976710656 ∧ c ≤ 9223372036854775807)) (hk : S.obj k = none) :
  FStep P ⟨some k, .makeSlice t x y, ty, pos, aft, g⟩ S [k] ⟨.osl k 0 n.toNat n.toNat, [(k, .arr sz false (List.replicate n.toNat p))]⟩ := by
 intro fr S' ht hn L a w hR hG Q
 obtain ⟨h0, hnc, hbytes, h63⟩ := hb
 have h1 := (hx.rep hγ hR (fun t e => ht t (mem_tmps (x := x) (by simp [Op.operands]) t e))).inv_v
 have h2 := (hy.rep hγ hR (fun t e => ht t (mem_tmps (x := y) (by simp [Op.operands]) t e))).inv_v
 subst hsz
 have hzl : zs.length = ei.size := Nat.eq_of_beq_eq_true hzs
 have hne : zs ≠ [] := fun h => by rw [h] at hzl; rw [← hzl] at hz0; simp at hz0
 obtain ⟨z, hzr, hzc, info, hi, hiz, his, hib⟩ := zero_of hT hle hz w
 have hr := run_make (P := P) w t e info z (und_slice hT hl hd) hi hiz kl kc n c h0 hnc (by rw [hib, hby]; exact hbytes) h63
 rw [hzc, his, ← hzl] at hr
 have hflat := madeCells_flat zs c.toNat hne
 have hcm : (madeCells zs.toArray (c.toNat * zs.length)) = ((List.replicate c.toNat zs).flatMap id).toArray := by rw [← hflat]
 rw [hcm] at hr
 have hpc := hp.cells
 have hes : ∀ q ∈ List.replicate n.toNat p, q.cells.length = ei.size := fun q hq => by
  rw [List.eq_of_mem_replicate hq, hpc, List.length_map, hzl]
 have hcells : cellsOf (List.replicate n.toNat p) = ((List.replicate n.toNat zs).flatMap id).map .v := by
  generalize n.toNat = m
  induction m with
  | zero => rfl
  | succ m ih =>
   simp only [cellsOf, List.replicate_succ, List.flatMap_cons, id, List.map_append, hpc] at ih ⊢
   rw [ih]
 have htake : ((List.replicate c.toNat zs).flatMap id).take (n.toNat * ei.size) = (List.replicate n.toNat zs).flatMap id := by
  have : List.replicate c.toNat zs = List.replicate n.toNat zs ++ List.replicate (c.toNat - n.toNat) zs := by
   rw [List.replicate_append_replicate]; congr 1; omega
  rw [this, List.flatMap_append]
  refine List.take_left' ?_
  rw [← hzl]
  generalize n.toNat = m
  induction m with
  | zero => simp
  | succ m ih => simp only [List.replicate_succ, List.flatMap_cons, id, List.length_append, ih]; rw [Nat.succ_mul]; omega
 have hclen : ((List.replicate c.toNat zs).flatMap id).length = c.toNat * ei.size := by
  rw [← hzl]
  generalize c.toNat = m
  induction m with
  | zero => simp
  | succ m ih => simp only [List.replicate_succ, List.flatMap_cons, id, List.length_append, ih]; rw [Nat.succ_mul]; omega
 obtain ⟨L', k1, k2⟩ := hR.newArr (cap := c.toNat) ((hn k (by simp)).trans hk) (es := List.replicate n.toNat p) (vs := (List.replicate c.toNat zs).flatMap id) hes (by
  rw [List.length_replicate, htake, hcells]; exact repL_map_v _ _ _ _) hclen (by rw [List.length_replicate]; omega) e
 unfold Oper.wp
 have hrun : (execOp a.eval ⟨some k, .makeSlice t x y, ty, pos, aft, g⟩).run P w = .ok (.value (.slice (some ⟨w.heap.size, 0, none⟩) n.toNat c.toNat)) (w.alloc (.cells ((List.replicate c.toNat zs).flatMap id).toArray e)) := by
  simp only [execOp, Sem.run_bind, h1, h2, hr, Result.andThen_ok, Sem.run_pure]
 rw [hrun, Oper.upon_value]
 rw [List.length_replicate] at k2
 exact ⟨_, L', rfl, k1, oslFull k2 (by omega)⟩
@[reducible] def u8V (b : UInt8) : PV := .v (.int .u8 (b.toNat : Int))
theorem repL_u8 {F : Nat → Prop} : ∀ {l : List UInt8} {news : List Value}, RepL w F L (cellsOf (l.map u8V)) news → news = l.map fun b => Value.int .u8 (b.toNat : Int)
 | [], news, h => by cases h; rfl
 | b :: r, news, h => by
  simp only [List.map_cons, cellsOf, List.flatMap_cons, PV.cells, List.cons_append, List.nil_append] at h
  cases h with
  | cons g1 g2 => rw [g1.inv_v, repL_u8 g2]; rfl
theorem F_bytesToString [Globs P] (hT : TOk P T) (hγ : γ = true) {s t e : Nat} {x : Operand} {p : PV} {rn : List Nat} {xs : List PV} {l : List UInt8} {si ti ei : TI} (hx : OpdO γ S x p) (hs : look T s = some si) (hsd : si.d = .slice e) (hle : look T e = some ei) (hed : ei.d = .int .u8)
  (hl : look T t = some ti) (htd : ti.d = .str) (hsrc : SrcR S (.slice e) 1 p rn xs) (hxs : Side (xs = l.map u8V)) : FStep P ⟨dst, .convert s t x, ty, pos, aft, g⟩ S rn ⟨sV l, []⟩ := by
 refine FStep.val fun fr S' L a w ht hn hR => ?_
 have h1 := hx.rep hγ hR (ht x (by simp [Op.operands]))
 obtain ⟨news, hlen, hf1, _, hnews, hcl, _⟩ := hsrc.sound (P := P) hR hn h1
 have hxs' : xs = l.map u8V := hxs
 have hvals : news = l.map fun b => Value.int .u8 (b.toNat : Int) := by
  rw [hxs'] at hnews
  exact repL_u8 hnews
 have hxl : xs.length = l.length := by rw [hxs', List.length_map]
 have hmap : news = (l.map fun b => (b.toNat : Int)).map (Value.int .u8) := by rw [hvals, List.map_map]; rfl
 have hback : (l.map fun b => (b.toNat : Int)).map (fun n => UInt8.ofNat n.toNat) = l := by
  rw [List.map_map]
  conv => rhs; rw [← List.map_id l]
  apply List.map_congr_left
  intro b _
  simp
 have hus := und_slice hT hs hsd
 have hue := und_int hT hle hed
 have hut := und_str hT hl htd
 refine ⟨.string ⟨⟨l⟩⟩, ?_, .v _ _⟩
 simp only [execOp, Sem.run_bind]
 generalize a.eval x = v at *
 have hconv : (convert s t v).run P w = .ok (.string ⟨⟨l⟩⟩) w := by
  cases hsrc with
  | sl =>
   cases h1 with
   | slNil =>
    have : l = [] := by simpa using hxs'.symm
    subst this
    exact run_convert_bytes_nil (P := P) w s e hus hue 0 0 t hut
   | slE =>
    have : l = [] := by simpa using hxs'.symm
    subst this
    rw [run_convert_bytes_string w s t e _ _ _ hus hue hut, run_bytesToString w _ _ _ [] (by simp [loadCells, loadCellsFrom])]
    rfl
   | sl q1 q2 q3 =>
    simp only [Builtin.firstCells, Nat.mul_one] at hf1
    rw [run_convert_bytes_string w s t e _ _ _ hus hue hut, run_bytesToString w _ _ _ (l.map fun b => (b.toNat : Int)) (by rw [q1]; rw [← hmap]; exact hf1), foldl_push_bytes, hback]
    (simp [ByteArray.empty, ByteArray.emptyWithCapacity]; rfl)
  | nil =>
   have := h1.inv_v
   subst this
   have : l = [] := by simpa using hxs'.symm
   subst this
   exact run_convert_bytes_nil (P := P) w s e hus hue 0 0 t hut
  | full ho hs2 =>
   rename_i o n isnil
   cases h1 with
   | osl q1 q2 q3 =>
    obtain ⟨b, m, c, rfl⟩ := q3
    cases b with
    | none =>
     simp only [Builtin.firstCells, Sem.run_pure] at hf1
     have : news = [] := by simpa using hf1.symm
     rw [this] at hmap
     have : l = [] := by simpa using hmap.symm
     subst this
     exact run_convert_bytes_nil (P := P) w s e hus hue _ _ t hut
    | some ad =>
     simp only [Builtin.firstCells, Nat.mul_one] at hf1
     have hm : m = xs.length := by simpa [Builtin.lenOf] using hlen
     rw [run_convert_bytes_string w s t e _ _ _ hus hue hut, run_bytesToString w _ _ _ (l.map fun b => (b.toNat : Int)) (by rw [hm, ← hmap]; exact hf1), foldl_push_bytes, hback]
     (simp [ByteArray.empty, ByteArray.emptyWithCapacity]; rfl)
  | part ho hs2 =>
   cases h1 with
   | osl q1 q2 q3 =>
    obtain ⟨b, m, c, rfl⟩ := q3
    cases b with
    | none =>
     simp only [Builtin.firstCells, Sem.run_pure] at hf1
     have : news = [] := by simpa using hf1.symm
     rw [this] at hmap
     have : l = [] := by simpa using hmap.symm
     subst this
     exact run_convert_bytes_nil (P := P) w s e hus hue _ _ t hut
    | some ad =>
     simp only [Builtin.firstCells, Nat.mul_one] at hf1
     simp only [Builtin.lenOf, Sem.run_pure, Result.ok.injEq, and_true] at hlen
     rw [run_convert_bytes_string w s t e _ _ _ hus hue hut, run_bytesToString w _ _ _ (l.map fun b => (b.toNat : Int)) (by rw [← hmap, hlen]; exact hf1), foldl_push_bytes, hback]
     (simp [ByteArray.empty, ByteArray.emptyWithCapacity]; rfl)
 rw [hconv]; rfl
end
end Go.Sym
namespace Go.Sym
open Go.RowKit
section
variable {κ β : Type} [DecidableEq κ]
def kidx : List κ → κ → Option Nat
 | [], _ => none
 | k :: r, x => if k = x then some 0 else (kidx r x).map (· + 1)
def mval (l : List κ) (bs : List β) (z : β) (x : κ) : β := match kidx l x with | some j => bs.getD j z | none => z
def mhas (l : List κ) (x : κ) : Bool := (kidx l x).isSome
def mkeys (l : List κ) (x : κ) : List κ := match kidx l x with | some _ => l | none => l ++ [x]
def mset (l : List κ) (bs : List β) (x : κ) (v : β) : List β := match kidx l x with | some j => bs.set j v | none => bs ++ [v]
def mix (l : List κ) (x : κ) : Nat := (kidx l x).getD l.length
theorem kidx_some : ∀ {l : List κ} {x : κ} {j : Nat}, kidx l x = some j → j < l.length ∧ l[j]? = some x
 | [], x, j, h => by simp [kidx] at h
 | k :: r, x, j, h => by
  simp only [kidx] at h
  split at h
  ·rename_i e; cases h; exact ⟨by simp, by simp [e]⟩
  ·cases hk : kidx r x with
   | none => rw [hk] at h; simp at h
   | some i =>
    rw [hk] at h; simp at h; subst h
    obtain ⟨h1, h2⟩ := kidx_some hk
    exact ⟨by simpa using h1, by simpa using h2⟩
theorem kidx_none : ∀ {l : List κ} {x : κ}, kidx l x = none ↔ x ∉ l
 | [], x => by simp [kidx]
 | k :: r, x => by
  simp only [kidx]
  by_cases e : k = x
  ·simp [e]
  ·have := kidx_none (l := r) (x := x)
   have e2 : ¬ x = k := fun h => e h.symm
   rw [if_neg e, Option.map_eq_none_iff, this]
   simp [e2]
theorem mhas_iff {l : List κ} {x : κ} : mhas l x = true ↔ x ∈ l := by
 simp only [mhas]
 cases h : kidx l x with
 | none => simp; exact kidx_none.1 h
 | some j => simp; exact List.mem_of_getElem? (kidx_some h).2
theorem kidx_append {l r : List κ} {x : κ} : kidx (l ++ r) x = match kidx l x with | some j => some j | none => (kidx r x).map (· + l.length) := by
 induction l with
 | nil => simp only [List.nil_append, kidx, List.length_nil, Nat.add_zero]; cases kidx r x <;> rfl
 | cons k l ih =>
  simp only [List.cons_append, kidx]
  by_cases e : k = x
  ·simp [e]
  ·rw [if_neg e, if_neg e, ih]
   cases kidx l x with
   | some j => rfl
   | none => cases kidx r x <;> simp <;> omega
theorem mkeys_length (l : List κ) (bs : List β) (x : κ) (v : β) (h : l.length = bs.length) : (mkeys l x).length = (mset l bs x v).length := by
 simp only [mkeys, mset]
 cases kidx l x <;> simp [h]
theorem mem_mkeys (l : List κ) (x y : κ) : y ∈ mkeys l x ↔ y = x ∨ y ∈ l := by
 simp only [mkeys]
 cases h : kidx l x with
 | none => simp [or_comm]
 | some j =>
  have := List.mem_of_getElem? (kidx_some h).2
  exact ⟨.inr, fun h => h.elim (fun h => h ▸ this) id⟩
theorem kidx_mkeys (l : List κ) (x : κ) : kidx (mkeys l x) x = some (mix l x) := by
 simp only [mkeys, mix]
 cases h : kidx l x with
 | some j => simp [h]
 | none => simp [kidx_append, h, kidx]
theorem kidx_mkeys_ne (l : List κ) {x y : κ} (hn : x ≠ y) : kidx (mkeys l x) y = kidx l y := by
 simp only [mkeys]
 cases h : kidx l x with
 | some j => rfl
 | none =>
  show kidx (l ++ [x]) y = _
  rw [kidx_append]
  cases kidx l y with
  | some j => rfl
  | none => simp [kidx, hn]
theorem mval_mset (l : List κ) (bs : List β) (x y : κ) (z v : β) (hl : l.length = bs.length) : mval (mkeys l x) (mset l bs x v) z y = if x = y then v else mval l bs z y := by
 by_cases e : x = y
 ·subst e
  rw [if_pos rfl]
  simp only [mval, kidx_mkeys]
  simp only [mix, mset]
  cases h : kidx l x with
  | some j => have := (kidx_some h).1; simp [List.getD, hl ▸ this]
  | none => simp [List.getD, hl]
 ·rw [if_neg e]
  simp only [mval, kidx_mkeys_ne l e]
  cases h : kidx l y with
  | none => rfl
  | some j =>
   simp only [mset]
   cases h2 : kidx l x with
   | some i =>
    have hij : i ≠ j := by
     rintro rfl
     have h3 := (kidx_some h).2
     have h4 := (kidx_some h2).2
     rw [h3] at h4; exact e (Option.some.inj h4).symm
    simp [List.getD, List.getElem?_set, hij]
   | none => have := (kidx_some h).1; simp [List.getD, List.getElem?_append_left (hl ▸ this)]
end
@[reducible] def strK (s : List UInt8) : Value := .string ⟨⟨s⟩⟩
structure KeyLaw (P : Program) (kt : TypeId) {κ : Type} [DecidableEq κ] (K : κ → Value) : Prop where
 same : ∃ kd, P.underlying kt = some kd ∧ ∀ a b, Instr.sameNow kd (K a) (K b) = some (decide (a = b))
 check : ∀ (e : Bool) (w : World) (a : κ), (Instr.checkKey e 10000 kt (K a)).run P w = .ok () w
 bits : ∀ a, Instr.sameBits 10000 (K a) (K a) = true
section
variable {P : Program} {T : Tbl} {fr : Fr} {S S' : St} {L : LMap} {a : Act} {w : World} {γ : Bool}
variable {dst : Option Tmp} {ty : Nat} {pos : String} {aft : Array Edge} {g : Option (Nat × Bool)}
theorem baEq (a b : List UInt8) : ((⟨⟨a⟩⟩ : ByteArray) == ⟨⟨b⟩⟩) = decide (a = b) := by
 have : ((⟨⟨a⟩⟩ : ByteArray) == ⟨⟨b⟩⟩) = ((⟨a⟩ : Array UInt8) == ⟨b⟩) := rfl
 rw [this, Bool.eq_iff_iff]
 simp
theorem baEq' (a : List UInt8) : Instr.sameBits 10000 (strK a) (strK a) = true := by
 have : Instr.sameBits (9999 + 1) (strK a) (strK a) = true := by simp only [Instr.sameBits]; rw [baEq, decide_eq_true rfl]
 exact this
theorem intBits (k : IntKind) (n : Int) : Instr.sameBits 10000 (.int k n) (.int k n) = true := by
 have : Instr.sameBits (9999 + 1) (.int k n) (.int k n) = true := by simp only [Instr.sameBits, beq_self_eq_true, Bool.and_self]
 exact this
theorem checkKey_flat {kt : TypeId} {kd : TypeDesc} (hu : P.underlying kt = some kd) (h1 : ∀ ms, kd ≠ .interface ms) (h2 : ∀ n e, kd ≠ .array n e) (h3 : ∀ fs, kd ≠ .struct fs) (e : Bool) (w : World) (v : Value) : (Instr.checkKey e 10000 kt v).run P w = .ok () w := by
 have : (Instr.checkKey e (9999 + 1) kt v).run P w = .ok () w := by
  unfold Instr.checkKey
  simp only [Sem.run_bind, run_underlying hu, Result.andThen_ok]
  cases kd <;> first | (exact absurd rfl (h1 _)) | (exact absurd rfl (h2 _ _)) | (exact absurd rfl (h3 _)) | rfl
 exact this
theorem KeyLaw.str (hT : TOk P T) {kt : TypeId} {ti : TI} (h : look T kt = some ti) (hd : ti.d = .str) : KeyLaw P kt strK := by
 have hu := und_str hT h hd
 refine ⟨⟨_, hu, fun a b => ?_⟩, fun e w a => ?_, fun a => ?_⟩
 ·simp only [Instr.sameNow]
  exact congrArg some (baEq a b)
 ·exact checkKey_flat hu (fun _ h => by cases h) (fun _ _ h => by cases h) (fun _ h => by cases h) e w _
 ·exact baEq' a
theorem KeyLaw.int (hT : TOk P T) {kt : TypeId} {ti : TI} {k : IntKind} (h : look T kt = some ti) (hd : ti.d = .int k) : KeyLaw P kt (fun n : Int => Value.int k n) := by
 have hu := und_int hT h hd
 refine ⟨⟨_, hu, fun a b => ?_⟩, fun e w a => ?_, fun a => ?_⟩
 ·simp only [Instr.sameNow, if_true]
  congr 1
 ·exact checkKey_flat hu (fun _ h => by cases h) (fun _ _ h => by cases h) (fun _ h => by cases h) e w _
 ·exact intBits k a
section
variable {κ β : Type} [DecidableEq κ] {K : κ → Value}
theorem findNow_eq {kd : TypeDesc} (hK : ∀ a b, Instr.sameNow kd (K a) (K b) = some (decide (a = b))) (x : κ) : ∀ (es : List MapEntry) (l : List κ) (i : Nat), es.map (·.key) = l.map K →
  Instr.findNow kd (K x) es i = some ((kidx l x).map fun j => (i + j, ((es[j]?).map (·.val)).getD undef))
 | [], [], i, _ => by simp [Instr.findNow, kidx]
 | [], _ :: _, _, h => by simp at h
 | _ :: _, [], _, h => by simp at h
 | e :: es, k :: l, i, h => by
  simp only [List.map_cons, List.cons.injEq] at h
  simp only [Instr.findNow, h.1, hK, kidx]
  by_cases e1 : k = x
  ·subst e1; simp
  ·have e2 : ¬ x = k := fun h => e1 h.symm
   simp only [decide_eq_false e2, if_neg e1]
   rw [findNow_eq hK x es l (i + 1) h.2]
   cases kidx l x with
   | none => rfl
   | some j => simp; omega
theorem run_findKey {kt : TypeId} (hK : KeyLaw P kt K) (x : κ) {es : List MapEntry} {l : List κ} (h : es.map (·.key) = l.map K) : (Instr.findKey kt (K x) es).run P w = .ok ((kidx l x).map fun j => (j, ((es[j]?).map (·.val)).getD undef)) w := by
 obtain ⟨kd, hu, hs⟩ := hK.same
 simp only [Instr.findKey, Sem.run_bind, run_underlying hu, Result.andThen_ok, findNow_eq hs x es l 0 h, Nat.zero_add, Sem.run_pure]
theorem und_map (hT : TOk P T) {t k e : TypeId} {ti : TI} (h : look T t = some ti) (hd : ti.d = .map k e) : P.underlying t = some (.map k e) := by
 obtain ⟨info, desc, _, h2, h3, _⟩ := hT.get h
 rw [hd] at h3
 cases desc <;> simp [TD.of] at h3
 rw [h2, h3.1, h3.2]
theorem R.map (hR : R fr S L a w) {o : Nat} {ks : List Value} {vs : List PV} (h : S.obj o = some (.map ks vs)) : ∃ b es, L o = some (.map b) ∧ w.heap[b]? = some (.map es es.size) ∧ es.toList.map (·.key) = ks ∧ RepL w (fr.F L) L vs (es.toList.map (·.val)) ∧ es.toList.map (·.born) = List.range es.size := by
 obtain ⟨l, h1, h2⟩ := hR.mem.objs o _ h
 cases l with
 | map b => obtain ⟨es, clock, k1, k2, k3, rfl, k5⟩ := h2; exact ⟨b, es, h1, k1, k2, k3, k5⟩
 | _ => exact h2.elim
theorem F_makeMap [Globs P] {k t : Nat} (hk : S.obj k = none) : FStep P ⟨some k, .makeMap t none, ty, pos, aft, g⟩ S [k] ⟨.mref k, [(k, .map [] [])]⟩ := by
 intro fr S' ht hn L a w hR hG Q
 have hno := hR.noL ((hn k (by simp)).trans hk)
 have hnew : (w.alloc (.map #[] 0)).heap[w.heap.size]? = some (.map #[] 0) := heap_alloc_new w _
 obtain ⟨h1, _, _⟩ := R.step' hR k (.map [] []) (.map w.heap.size) (hR.mem.frame.alloc (.map #[] 0) hR.mem.parLt.1) (by simp) (fun b hb _ => Below.heap_alloc _ _ _ hb) (fun l0 h => (hno l0 h).elim)
  (fun b hb => .inr (by simp [Loc.blk] at hb; subst hb; simp)) (fun p hp => by simp [Loc.range] at hp; subst hp; exact .inr ⟨.inl rfl, _, hnew, .map⟩) (fun hext hl => ⟨#[], 0, hnew, rfl, .nil _, rfl, rfl⟩)
 unfold Oper.wp
 have hrun : (execOp a.eval ⟨some k, .makeMap t none, ty, pos, aft, g⟩).run P w = .ok (.value (.map (some w.heap.size))) (w.alloc (.map #[] 0)) := by
  simp only [execOp, Option.map_none, Sem.run_bind, run_makeMap, Result.andThen_ok, Sem.run_pure]
 rw [hrun, Oper.upon_value]
 exact ⟨_, _, rfl, h1, .mref (l := .map w.heap.size) (by simp [LMap.set]) rfl ⟨_, rfl⟩⟩
inductive MapR (S : St) : PV → List Value → List PV → List Nat → Prop
 | own {o : Nat} {ks : List Value} {vs : List PV} : S.obj o = some (.map ks vs) → MapR S (.mref o) ks vs [o]
 | ro {nl : Bool} {ks : List Value} {vs : List PV} : MapR S (.mp nl ks vs) ks vs []
theorem MapR.sound {p : PV} {ks : List Value} {vs : List PV} {rn : List Nat} (h : MapR S p ks vs rn) (hR : R fr S' L a w) (hn : ∀ n ∈ rn, S'.obj n = S.obj n) {x : Value} (hx : Rep w (fr.F L) L p x) :
  (x = .map none ∧ ks = [] ∧ vs = []) ∨ ∃ b es clock, x = .map (some b) ∧ w.heap[b]? = some (.map es clock) ∧ es.toList.map (·.key) = ks ∧ RepL w (fr.F L) L vs (es.toList.map (·.val)) := by
 cases h with
 | own ho =>
  obtain ⟨b, es, h1, h2, h3, h4, _⟩ := hR.map ((hn _ (by simp)).trans ho)
  cases hx with
  | mref q1 q2 q3 =>
   rw [h1] at q1; cases q1
   exact .inr ⟨b, es, _, q2, h2, h3, h4⟩
 | ro =>
  cases hx with
  | mp h1 h2 h3 h4 _ => exact .inr ⟨_, _, _, rfl, h1, h3, h4.mono (Ext.refl _ _) (fun o l h => by cases h)⟩
  | mpNil => exact .inl ⟨rfl, rfl, rfl⟩
theorem lookup_run (hT : TOk P T) {t kt et : TypeId} {ti : TI} {l : List κ} {bs : List β} {f : β → PV} {z : β} {zv : Value} {x : κ} {p : PV} {rn : List Nat} {v : Value} (hl : look T t = some ti) (hd : ti.d = .map kt et) (hK : KeyLaw P kt K)
  (hz : ∀ w, (zeroValue et).run P w = .ok zv w) (hzf : ∀ w F L, Rep w F L (f z) zv) (hlen : l.length = bs.length) (hm : MapR S p (l.map K) (bs.map f) rn) (hR : R fr S' L a w) (hn : ∀ n ∈ rn, S'.obj n = S.obj n) (hv : Rep w (fr.F L) L p v) (ok : Bool) :
  ∃ y, (Instr.lookup t v (K x) ok).run P w = .ok (if ok then .tuple #[y, .bool (mhas l x)] else y) w ∧ Rep w (fr.F L) L (f (mval l bs z x)) y := by
 have hu := und_map hT hl hd
 rcases hm.sound hR hn hv with ⟨rfl, h1, h2⟩ | ⟨b, es, clock, rfl, h1, h2, h3⟩
 ·have hl0 : l = [] := by simpa using h1
  subst hl0
  refine ⟨zv, ?_, ?_⟩
  ·simp only [Instr.lookup, Sem.run_bind, run_underlying hu, Result.andThen_ok, Sem.run_pure, hK.check, run_findKey hK x (es := []) (l := []) rfl, kidx, Option.map_none, hz, mhas, Option.isSome_none]
  ·simp only [mval, kidx]; exact hzf _ _ _
 ·have hg : (getObj b).run P w = .ok (.map es clock) w := by simp [getObj, Sem.run, h1]
  cases hk : kidx l x with
  | none =>
   refine ⟨zv, ?_, ?_⟩
   ·simp only [Instr.lookup, Sem.run_bind, run_underlying hu, Result.andThen_ok, Sem.run_pure, hg, hK.check, run_findKey hK x h2, hk, Option.map_none, hz, mhas, Option.isSome_none]
   ·simp only [mval, hk]; exact hzf _ _ _
  | some j =>
   obtain ⟨hj, _⟩ := kidx_some hk
   obtain ⟨y, hy, hr⟩ := repL_get h3 j (f (bs.getD j z)) (by
    rw [List.getElem?_map, List.getElem?_eq_getElem (by omega)]
    simp [List.getD, List.getElem?_eq_getElem (show j < bs.length by omega)])
   have hy' : ((es.toList[j]?).map (·.val)).getD undef = y := by
    rw [List.getElem?_map] at hy
    rw [hy]; rfl
   refine ⟨y, ?_, ?_⟩
   ·simp only [Instr.lookup, Sem.run_bind, run_underlying hu, Result.andThen_ok, Sem.run_pure, hg, hK.check, run_findKey hK x h2, hk, Option.map_some, hy', mhas, Option.isSome_some]
   ·simp only [mval, hk]; exact hr
theorem F_lookup [Globs P] (hT : TOk P T) (hγ : γ = true) {t kt et : TypeId} {ti : TI} {l : List κ} {bs : List β} {f : β → PV} {z : β} {zv : Value} {x : κ} {p : PV} {rn : List Nat} {xo io : Operand} (hx : OpdO γ S xo p) (hi : OpdO γ S io (.v (K x))) (hl : look T t = some ti) (hd : ti.d = .map kt et) (hK : KeyLaw P kt K)
  (hz : ∀ w, (zeroValue et).run P w = .ok zv w) (hzf : ∀ w F L, Rep w F L (f z) zv) (hm : MapR S p (l.map K) (bs.map f) rn) (hlen : Side (l.length = bs.length)) : FStep P ⟨dst, .lookup t xo io false, ty, pos, aft, g⟩ S rn ⟨f (mval l bs z x), []⟩ := by
 refine FStep.val fun fr S' L a w ht hn hR => ?_
 have h1 := hx.rep hγ hR (ht xo (by simp [Op.operands]))
 have h2 := (hi.rep hγ hR (ht io (by simp [Op.operands]))).inv_v
 obtain ⟨y, k1, k2⟩ := lookup_run (x := x) hT hl hd hK hz hzf hlen hm hR hn h1 false
 exact ⟨y, by simp only [execOp, Sem.run_bind, h2, k1, Result.andThen_ok, Sem.run_pure]; rfl, k2⟩
theorem F_lookupOk [Globs P] (hT : TOk P T) (hγ : γ = true) {t kt et : TypeId} {ti : TI} {l : List κ} {bs : List β} {f : β → PV} {z : β} {zv : Value} {x : κ} {p : PV} {rn : List Nat} {xo io : Operand} (hx : OpdO γ S xo p) (hi : OpdO γ S io (.v (K x))) (hl : look T t = some ti) (hd : ti.d = .map kt et) (hK : KeyLaw P kt K)
  (hz : ∀ w, (zeroValue et).run P w = .ok zv w) (hzf : ∀ w F L, Rep w F L (f z) zv) (hm : MapR S p (l.map K) (bs.map f) rn) (hlen : Side (l.length = bs.length)) : FStep P ⟨dst, .lookup t xo io true, ty, pos, aft, g⟩ S rn ⟨.tup [f (mval l bs z x), bV (mhas l x)], []⟩ := by
 refine FStep.val fun fr S' L a w ht hn hR => ?_
 have h1 := hx.rep hγ hR (ht xo (by simp [Op.operands]))
 have h2 := (hi.rep hγ hR (ht io (by simp [Op.operands]))).inv_v
 obtain ⟨y, k1, k2⟩ := lookup_run (x := x) hT hl hd hK hz hzf hlen hm hR hn h1 true
 exact ⟨_, by simp only [execOp, Sem.run_bind, h2, k1, Result.andThen_ok, Sem.run_pure]; rfl, Rep.tup (.cons k2 (.cons (.v _ _) (.nil _)))⟩
theorem R.putMap (hR : R fr S L a w) {o : Nat} {ks ks' : List Value} {vs vs' : List PV} {b : Nat} {es es' : Array MapEntry} (ho : S.obj o = some (.map ks vs)) (hl : L o = some (.map b)) (hb : w.heap[b]? = some (.map es es.size))
  (hk : es'.toList.map (·.key) = ks') (hbo : es'.toList.map (·.born) = List.range es'.size)
  (hv : ∀ w' F' L', Ext w (fr.F L) w' F' → LExt L L' → RepL w' F' L' vs' (es'.toList.map (·.val))) :
  R fr (S.upd [(o, .map ks' vs')]) L a { w with heap := w.heap.setIfInBounds b (.map es' es'.size) } ∧ Ext w (fr.F L) { w with heap := w.heap.setIfInBounds b (.map es' es'.size) } (fr.F L) := by
 obtain ⟨hs1, hs2⟩ := MapKept.heap_set (o' := .map es' es'.size) hb
 have hnew : fr.w0.heap.size ≤ b ∨ (b, 0, 0) ∈ fr.par := by
  obtain ⟨_, h | ⟨p, hp, hr⟩⟩ := hR.mem.place o _ b hl rfl
  ·exact .inl h.1
  ·simp [Loc.range] at hr; subst hr; exact .inr hp
 have hset : L.set o (.map b) = L := by
  funext n
  simp only [LMap.set]
  split
  ·rename_i e; rw [e, hl]
  ·rfl
 have hF : Frame0 fr { w with heap := w.heap.setIfInBounds b (.map es' es'.size) } := by
  have h := hR.mem.frame
  refine ⟨h.os, h.tape, h.output, by simpa using h.size, fun b' hb' hn => ?_, fun p hp => ?_, fun x hx => ?_, h.gpar⟩
  ·exact (hs2 b' (fun e => by subst e; exact hnew.elim (fun h => by omega) (fun h => hn _ h rfl))).trans (h.block b' hb' hn)
  ·obtain ⟨ob, ob', h1, h2, h3⟩ := h.part p hp
   by_cases hpb : p.1 = b
   ·subst hpb
    rw [hb] at h2; cases h2
    rcases h3 with ⟨_, _, _, _, _, h3, _⟩ | ⟨h3, _⟩
    ·cases h3
    ·exact ⟨_, _, h1, hs1, .inr ⟨h3, .map⟩⟩
   ·exact ⟨ob, ob', h1, (hs2 p.1 hpb).trans h2, h3⟩
  ·obtain ⟨v, h1, h2⟩ := h.glob x hx
   obtain ⟨g1, g2⟩ := h.gpar x hx
   exact ⟨v, (hs2 x.1 (fun e => by subst e; exact hnew.elim (fun h => by omega) (fun h => g2 _ h rfl))).trans h1, h2⟩
 obtain ⟨h1, h2, h3⟩ := R.step' hR o (.map ks' vs') (.map b) hF (by simp) (fun b' _ hn => hs2 b' (fun e => hn _ hl (by rw [e]; rfl)))
  (fun l0 h => by rw [hl] at h; cases h; exact Loc.le_refl _)
  (fun b' hb' => .inl ⟨_, hl, hb', rfl⟩) (fun p hp => by simp [Loc.range] at hp; subst hp; exact .inr ⟨.inl rfl, _, hs1, .map⟩)
  (fun hext hle => ⟨es', _, hs1, hk, hv _ _ _ hext hle, rfl, hbo⟩)
 rw [hset] at h1 h2
 exact ⟨h1, h2⟩
theorem keep_key {kt : TypeId} (hK : KeyLaw P kt K) (x : κ) : (Instr.keyThatStays (K x) (K x)).run P w = .ok (K x) w := by simp only [Instr.keyThatStays, hK.bits x, if_true, Sem.run_pure]
theorem map_entries {es : Array MapEntry} {l : List κ} (h : es.toList.map (·.key) = l.map K) {x : κ} {j : Nat} (hk : kidx l x = some j) : ∃ e, es[j]? = some e ∧ e.key = K x ∧ j < es.size := by
 obtain ⟨h1, h2⟩ := kidx_some hk
 have h3 : (es.toList.map (·.key))[j]? = some (K x) := by rw [h, List.getElem?_map, h2]; rfl
 rw [List.getElem?_map] at h3
 cases h4 : es.toList[j]? with
 | none => rw [h4] at h3; simp at h3
 | some e =>
  rw [h4] at h3
  simp at h3
  have h5 : es[j]? = some e := by simpa using h4
  exact ⟨e, h5, h3, (Array.getElem?_eq_some_iff.1 h5).1⟩
theorem map_modify_self {α β : Type} (g : α → β) (l : List α) (j : Nat) (F : α → α) (h : ∀ e, l[j]? = some e → g (F e) = g e) : (l.modify j F).map g = l.map g := by
 apply List.ext_getElem?
 intro i
 simp only [List.getElem?_map, List.getElem?_modify]
 cases hi : l[i]? with
 | none => rfl
 | some e =>
  by_cases hij : j = i
  ·subst hij; simp [h e hi]
  ·simp [hij]
theorem map_modify_set {α β : Type} (g : α → β) (l : List α) (j : Nat) (F : α → α) (v : β) (h : ∀ e, l[j]? = some e → g (F e) = v) : (l.modify j F).map g = (l.map g).set j v := by
 apply List.ext_getElem?
 intro i
 simp only [List.getElem?_map, List.getElem?_modify, List.getElem?_set, List.length_map]
 by_cases hij : j = i
 ·subst hij
  cases hi : l[j]? with
  | none => have := List.getElem?_eq_none_iff.1 hi; simp [this]
  | some e => have := (List.getElem?_eq_some_iff.1 hi).1; simp [h e hi, this]
 ·simp [hij]
theorem repL_set {w : World} {F : Nat → Prop} {L : LMap} : ∀ {ps : List PV} {vs : List Value}, RepL w F L ps vs → ∀ (j : Nat) {p : PV} {v : Value}, Rep w F L p v → RepL w F L (ps.set j p) (vs.set j v)
 | _, _, .nil _, j, p, v, _ => by simpa using RepL.nil L
 | _, _, .cons h t, 0, p, v, hv => .cons hv t
 | _, _, .cons h t, j + 1, p, v, hv => .cons h (repL_set t j hv)
theorem repL_snoc {w : World} {F : Nat → Prop} {L : LMap} : ∀ {ps : List PV} {vs : List Value}, RepL w F L ps vs → ∀ {p : PV} {v : Value}, Rep w F L p v → RepL w F L (ps ++ [p]) (vs ++ [v])
 | _, _, .nil _, p, v, hv => .cons hv (.nil _)
 | _, _, .cons h t, p, v, hv => .cons h (repL_snoc t hv)
def esPut (es : Array MapEntry) (l : List κ) (K : κ → Value) (x : κ) (v : Value) : Array MapEntry := match kidx l x with | some j => es.modify j fun e => { e with key := K x, val := v } | none => es.push { key := K x, val := v, born := es.size }
theorem esPut_spec {es : Array MapEntry} {l : List κ} (h : es.toList.map (·.key) = l.map K) (hb : es.toList.map (·.born) = List.range es.size) (x : κ) (v : Value) :
  (esPut es l K x v).toList.map (·.key) = (mkeys l x).map K ∧ (esPut es l K x v).toList.map (·.born) = List.range (esPut es l K x v).size ∧
  ∀ (bs : List β) (f : β → PV) (u : β) w F L, l.length = bs.length → RepL w F L (bs.map f) (es.toList.map (·.val)) → Rep w F L (f u) v → RepL w F L ((mset l bs x u).map f) ((esPut es l K x v).toList.map (·.val)) := by
 simp only [esPut, mkeys, mset]
 cases hk : kidx l x with
 | none =>
  simp only [Array.toList_push, List.map_append, List.map_cons, List.map_nil, Array.size_push, h, hb, List.range_succ, true_and]
  intro bs f u w F L _ h1 h2
  exact repL_snoc h1 h2
 | some j =>
  obtain ⟨e, h1, h2, h3⟩ := map_entries h hk
  have hj : es.toList[j]? = some e := by simpa using h1
  simp only [Array.toList_modify, Array.size_modify]
  refine ⟨?_, ?_, fun bs f u w F L _ g1 g2 => ?_⟩
  ·rw [map_modify_self, h]
   intro e' he'
   rw [hj] at he'; cases he'; exact h2.symm
  ·rw [map_modify_self, hb]
   intro e' he'; rfl
  ·rw [map_modify_set _ _ _ _ v (fun _ _ => rfl), List.map_set]
   exact repL_set g1 j g2
theorem F_mapUpdate [Globs P] (hT : TOk P T) (hγ : γ = true) {t kt et : TypeId} {ti : TI} {o : Nat} {l : List κ} {bs : List β} {f : β → PV} {u : β} {x : κ} {xo io vo : Operand} (hx : OpdO γ S xo (.mref o)) (hi : OpdO γ S io (.v (K x))) (hv : OpdO γ S vo (f u)) (hl : look T t = some ti) (hd : ti.d = .map kt et) (hK : KeyLaw P kt K)
  (hm : S.obj o = some (.map (l.map K) (bs.map f))) (hlen : Side (l.length = bs.length)) : FStep P ⟨none, .mapUpdate t xo io vo, ty, pos, aft, g⟩ S [o] ⟨.v undef, [(o, .map ((mkeys l x).map K) ((mset l bs x u).map f))]⟩ := by
 intro fr S' ht hn L a w hR hG Q
 have h1 := hx.rep hγ hR (fun t e => ht t (mem_tmps (x := xo) (by simp [Op.operands]) t e))
 have h2 := (hi.rep hγ hR (fun t e => ht t (mem_tmps (x := io) (by simp [Op.operands]) t e))).inv_v
 have h3 := hv.rep hγ hR (fun t e => ht t (mem_tmps (x := vo) (by simp [Op.operands]) t e))
 have hu := und_map hT hl hd
 have ho := (hn _ (by simp)).trans hm
 obtain ⟨b, es, k1, k2, k3, k4, k5⟩ := hR.map ho
 have hxe : a.eval xo = .map (some b) := by
  cases h1 with
  | mref q1 q2 q3 => rw [k1] at q1; cases q1; exact q2
 obtain ⟨s1, s2, s3⟩ := esPut_spec k3 k5 x (a.eval vo)
 have hP := R.putMap (vs' := (mset l bs x u).map f) hR ho k1 k2 s1 s2 (fun w' F' L' he hle => s3 bs f u w' F' L' hlen (k4.mono he hle) (h3.mono he hle))
 have hg : (getObj b).run P w = .ok (.map es es.size) w := by simp [getObj, Sem.run, k2]
 have hrun : (execOp a.eval ⟨none, .mapUpdate t xo io vo, ty, pos, aft, g⟩).run P w = .ok .skip { w with heap := w.heap.setIfInBounds b (.map (esPut es l K x (a.eval vo)) (esPut es l K x (a.eval vo)).size) } := by
  simp only [execOp, Instr.mapUpdate, Sem.run_bind, run_underlying hu, Result.andThen_ok, hxe, h2, hg, hK.check, run_findKey hK x k3]
  cases hk : kidx l x with
  | none => simp [esPut, hk, MapKept.run_setObj_map _ k2]
  | some j =>
   obtain ⟨e, g1, g2, _⟩ := map_entries k3 hk
   simp [esPut, hk, g1, g2, keep_key hK, MapKept.run_setObj_map _ k2]
 unfold Oper.wp
 rw [hrun, Oper.upon_skip]
 exact ⟨undef, _, rfl, hP.1, .v _ _⟩
end
end
end Go.Sym
