/- A part of the proof: SymZ, SymZB. -/
import Derived.Carry
import Derived.MapKept
import Derived.Test.YtbnnmnbidkpmcaaGreatDoorPart16
import Derived.Lib.ConvBytes
set_option linter.unusedVariables false
set_option linter.unusedSimpArgs false
namespace Go.Sym
open Go.RowKit
section
variable {κ β : Type} [DecidableEq κ]
def kidx : List κ → κ → Option Nat
 | [], _ => none
 | k :: r, x => if k = x then some 0 else (kidx r x).map (· + 1)
def mval (l : List κ) (bs : List β) (z : β) (x : κ) : β := match kidx l x with | some j => bs.getD j z | none => z
def mhas (l : List κ) (x : κ) : Bool := (kidx l x).isSome
def mkeys (l : List κ) (x : κ) : List κ := match kidx l x with | some _ => l | none => l ++ [x]
def mset (l : List κ) (bs : List β) (x : κ) (v : β) : List β := match kidx l x with | some j => bs.set j v | none => bs ++ [v]
def mix (l : List κ) (x : κ) : Nat := (kidx l x).getD l.length
theorem kidx_some : ∀ {l : List κ} {x : κ} {j : Nat}, kidx l x = some j → j < l.length ∧ l[j]? = some x
 | [], x, j, h => by simp [kidx] at h
 | k :: r, x, j, h => by
  simp only [kidx] at h
  split at h
  ·rename_i e; cases h; exact ⟨by simp, by simp [e]⟩
  ·cases hk : kidx r x with
   | none => rw [hk] at h; simp at h
   | some i =>
    rw [hk] at h; simp at h; subst h
    obtain ⟨h1, h2⟩ := kidx_some hk
    exact ⟨by simpa using h1, by simpa using h2⟩
theorem kidx_append {l r : List κ} {x : κ} : kidx (l ++ r) x = match kidx l x with | some j => some j | none => (kidx r x).map (· + l.length) := by
 induction l with
 | nil => simp only [List.nil_append, kidx, List.length_nil, Nat.add_zero]; cases kidx r x <;> rfl
 | cons k l ih =>
  simp only [List.cons_append, kidx]
  by_cases e : k = x
  ·simp [e]
  ·rw [if_neg e, if_neg e, ih]
   cases kidx l x with
   | some j => rfl
   | none => cases kidx r x <;> simp <;> omega
theorem mkeys_length (l : List κ) (bs : List β) (x : κ) (v : β) (h : l.length = bs.length) : (mkeys l x).length = (mset l bs x v).length := by
 simp only [mkeys, mset]
 cases kidx l x <;> simp [h]
theorem kidx_mkeys (l : List κ) (x : κ) : kidx (mkeys l x) x = some (mix l x) := by
 simp only [mkeys, mix]
 cases h : kidx l x with
 | some j => simp [h]
 | none => simp [kidx_append, h, kidx]
theorem kidx_mkeys_ne (l : List κ) {x y : κ} (hn : x ≠ y) : kidx (mkeys l x) y = kidx l y := by
 simp only [mkeys]
 cases h : kidx l x with
 | some j => rfl
 | none =>
  show kidx (l ++ [x]) y = _
  rw [kidx_append]
  cases kidx l y with
  | some j => rfl
  | none => simp [kidx, hn]
theorem mval_mset (l : List κ) (bs : List β) (x y : κ) (z v : β) (hl : l.length = bs.length) : mval (mkeys l x) (mset l bs x v) z y = if x = y then v else mval l bs z y := by
 by_cases e : x = y
 ·subst e
  rw [if_pos rfl]
  simp only [mval, kidx_mkeys]
  simp only [mix, mset]
  cases h : kidx l x with
  | some j => have := (kidx_some h).1; simp [List.getD, hl ▸ this]
  | none => simp [List.getD, hl]
 ·rw [if_neg e]
  simp only [mval, kidx_mkeys_ne l e]
  cases h : kidx l y with
  | none => rfl
  | some j =>
   simp only [mset]
   cases h2 : kidx l x with
   | some i =>
    have hij : i ≠ j := by
     rintro rfl
     have h3 := (kidx_some h).2
     have h4 := (kidx_some h2).2
     rw [h3] at h4; exact e (Option.some.inj h4).symm
    simp [List.getD, List.getElem?_set, hij]
   | none => have := (kidx_some h).1; simp [List.getD, List.getElem?_append_left (hl ▸ this)]
end
@[reducible] def strK (s : List UInt8) : Value := .string ⟨⟨s⟩⟩
structure KeyLaw (P : Program) (kt : TypeId) {κ : Type} [DecidableEq κ] (K : κ → Value) : Prop where
 same : ∃ kd, P.underlying kt = some kd ∧ ∀ a b, Instr.sameNow kd (K a) (K b) = some (decide (a = b))
 check : ∀ (e : Bool) (w : World) (a : κ), (Instr.checkKey e 10000 kt (K a)).run P w = .ok () w
 bits : ∀ a, Instr.sameBits 10000 (K a) (K a) = true
section
variable {P : Program} {T : Tbl} {fr : Fr} {S S' : St} {L : LMap} {a : Act} {w : World} {γ : Bool}
variable {dst : Option Tmp} {ty : Nat} {pos : String} {aft : Array Edge} {g : Option (Nat × Bool)}
theorem baEq (a b : List UInt8) : ((⟨⟨a⟩⟩ : ByteArray) == ⟨⟨b⟩⟩) = decide (a = b) := by
 have : ((⟨⟨a⟩⟩ : ByteArray) == ⟨⟨b⟩⟩) = ((⟨a⟩ : Array UInt8) == ⟨b⟩) := rfl
 rw [this, Bool.eq_iff_iff]
 simp
theorem baEq' (a : List UInt8) : Instr.sameBits 10000 (strK a) (strK a) = true := by
 have : Instr.sameBits (9999 + 1) (strK a) (strK a) = true := by simp only [Instr.sameBits]; rw [baEq, decide_eq_true rfl]
 exact this
theorem intBits (k : IntKind) (n : Int) : Instr.sameBits 10000 (.int k n) (.int k n) = true := by
 have : Instr.sameBits (9999 + 1) (.int k n) (.int k n) = true := by simp only [Instr.sameBits, beq_self_eq_true, Bool.and_self]
 exact this
theorem checkKey_flat {kt : TypeId} {kd : TypeDesc} (hu : P.underlying kt = some kd) (h1 : ∀ ms, kd ≠ .interface ms) (h2 : ∀ n e, kd ≠ .array n e) (h3 : ∀ fs, kd ≠ .struct fs) (e : Bool) (w : World) (v : Value) : (Instr.checkKey e 10000 kt v).run P w = .ok () w := by
 have : (Instr.checkKey e (9999 + 1) kt v).run P w = .ok () w := by
  unfold Instr.checkKey
  simp only [Sem.run_bind, run_underlying hu, Result.andThen_ok]
  cases kd <;> first | (exact absurd rfl (h1 _)) | (exact absurd rfl (h2 _ _)) | (exact absurd rfl (h3 _)) | rfl
 exact this
theorem KeyLaw.str (hT : TOk P T) {kt : TypeId} {ti : TI} (h : look T kt = some ti) (hd : ti.d = .str) : KeyLaw P kt strK := by
 have hu := und_str hT h hd
 refine ⟨⟨_, hu, fun a b => ?_⟩, fun e w a => ?_, fun a => ?_⟩
 ·simp only [Instr.sameNow]
  exact congrArg some (baEq a b)
 ·exact checkKey_flat hu (fun _ h => by cases h) (fun _ _ h => by cases h) (fun _ h => by cases h) e w _
 ·exact baEq' a
theorem KeyLaw.int (hT : TOk P T) {kt : TypeId} {ti : TI} {k : IntKind} (h : look T kt = some ti) (hd : ti.d = .int k) : KeyLaw P kt (fun n : Int => Value.int k n) := by
 have hu := und_int hT h hd
 refine ⟨⟨_, hu, fun a b => ?_⟩, fun e w a => ?_, fun a => ?_⟩
 ·simp only [Instr.sameNow, if_true]
  congr 1
 ·exact checkKey_flat hu (fun _ h => by cases h) (fun _ _ h => by cases h) (fun _ h => by cases h) e w _
 ·exact intBits k a
section
variable {κ β : Type} [DecidableEq κ] {K : κ → Value}
theorem findNow_eq {kd : TypeDesc} (hK : ∀ a b, Instr.sameNow kd (K a) (K b) = some (decide (a = b))) (x : κ) : ∀ (es : List MapEntry) (l : List κ) (i : Nat), es.map (·.key) = l.map K →
  Instr.findNow kd (K x) es i = some ((kidx l x).map fun j => (i + j, ((es[j]?).map (·.val)).getD undef))
 | [], [], i, _ => by simp [Instr.findNow, kidx]
 | [], _ :: _, _, h => by simp at h
 | _ :: _, [], _, h => by simp at h
 | e :: es, k :: l, i, h => by
  simp only [List.map_cons, List.cons.injEq] at h
  simp only [Instr.findNow, h.1, hK, kidx]
  by_cases e1 : k = x
  ·subst e1; simp
  ·have e2 : ¬ x = k := fun h => e1 h.symm
   simp only [decide_eq_false e2, if_neg e1]
   rw [findNow_eq hK x es l (i + 1) h.2]
   cases kidx l x with
   | none => rfl
   | some j => simp; omega
theorem run_findKey {kt : TypeId} (hK : KeyLaw P kt K) (x : κ) {es : List MapEntry} {l : List κ} (h : es.map (·.key) = l.map K) : (Instr.findKey kt (K x) es).run P w = .ok ((kidx l x).map fun j => (j, ((es[j]?).map (·.val)).getD undef)) w := by
 obtain ⟨kd, hu, hs⟩ := hK.same
 simp only [Instr.findKey, Sem.run_bind, run_underlying hu, Result.andThen_ok, findNow_eq hs x es l 0 h, Nat.zero_add, Sem.run_pure]
theorem und_map (hT : TOk P T) {t k e : TypeId} {ti : TI} (h : look T t = some ti) (hd : ti.d = .map k e) : P.underlying t = some (.map k e) := by
 obtain ⟨info, desc, _, h2, h3, _⟩ := hT.get h
 rw [hd] at h3
 cases desc <;> simp [TD.of] at h3
 rw [h2, h3.1, h3.2]
theorem R.map (hR : R fr S L a w) {o : Nat} {ks : List Value} {vs : List PV} (h : S.obj o = some (.map ks vs)) : ∃ b es, L o = some (.map b) ∧ w.heap[b]? = some (.map es es.size) ∧ es.toList.map (·.key) = ks ∧ RepL w (fr.F L) L vs (es.toList.map (·.val)) ∧ es.toList.map (·.born) = List.range es.size := by
 obtain ⟨l, h1, h2⟩ := hR.mem.objs o _ h
 cases l with
 | map b => obtain ⟨es, clock, k1, k2, k3, rfl, k5⟩ := h2; exact ⟨b, es, h1, k1, k2, k3, k5⟩
 | _ => exact h2.elim
theorem F_makeMap [Globs P] {k t : Nat} (hk : S.obj k = none) : FStep P ⟨some k, .makeMap t none, ty, pos, aft, g⟩ S [k] ⟨.mref k, [(k, .map [] [])]⟩ := by
 intro fr S' ht hn L a w hR hG Q
 have hno := hR.noL ((hn k (by simp)).trans hk)
 have hnew : (w.alloc (.map #[] 0)).heap[w.heap.size]? = some (.map #[] 0) := heap_alloc_new w _
 obtain ⟨h1, _, _⟩ := R.step' hR k (.map [] []) (.map w.heap.size) (hR.mem.frame.alloc (.map #[] 0) hR.mem.parLt.1) (by simp) (fun b hb _ => Below.heap_alloc _ _ _ hb) (fun l0 h => (hno l0 h).elim)
  (fun b hb => .inr (by simp [Loc.blk] at hb; subst hb; simp)) (fun p hp => by simp [Loc.range] at hp) (fun hext hl => ⟨#[], 0, hnew, rfl, .nil _, rfl, rfl⟩)
 unfold Oper.wp
 have hrun : (execOp a.eval ⟨some k, .makeMap t none, ty, pos, aft, g⟩).run P w = .ok (.value (.map (some w.heap.size))) (w.alloc (.map #[] 0)) := by
  simp only [execOp, Option.map_none, Sem.run_bind, run_makeMap, Result.andThen_ok, Sem.run_pure]
 rw [hrun, Oper.upon_value]
 exact ⟨_, _, rfl, h1, .mref (l := .map w.heap.size) (by simp [LMap.set]) rfl ⟨_, rfl⟩⟩
inductive MapR (S : St) : PV → List Value → List PV → List Nat → Prop
 | own {o : Nat} {ks : List Value} {vs : List PV} : S.obj o = some (.map ks vs) → MapR S (.mref o) ks vs [o]
 | ro {nl : Bool} {ks : List Value} {vs : List PV} : MapR S (.mp nl ks vs) ks vs []
theorem MapR.sound {p : PV} {ks : List Value} {vs : List PV} {rn : List Nat} (h : MapR S p ks vs rn) (hR : R fr S' L a w) (hn : ∀ n ∈ rn, S'.obj n = S.obj n) {x : Value} (hx : Rep w (fr.F L) L p x) :
  (x = .map none ∧ ks = [] ∧ vs = []) ∨ ∃ b es clock, x = .map (some b) ∧ w.heap[b]? = some (.map es clock) ∧ es.toList.map (·.key) = ks ∧ RepL w (fr.F L) L vs (es.toList.map (·.val)) := by
 cases h with
 | own ho =>
  obtain ⟨b, es, h1, h2, h3, h4, _⟩ := hR.map ((hn _ (by simp)).trans ho)
  cases hx with
  | mref q1 q2 q3 =>
   rw [h1] at q1; cases q1
   exact .inr ⟨b, es, _, q2, h2, h3, h4⟩
 | ro =>
  cases hx with
  | mp h1 h2 h3 h4 => exact .inr ⟨_, _, _, rfl, h1, h3, h4.mono (Ext.refl _ _) (fun o l h => by cases h)⟩
  | mpNil => exact .inl ⟨rfl, rfl, rfl⟩
theorem lookup_run (hT : TOk P T) {t kt et : TypeId} {ti : TI} {l : List κ} {bs : List β} {f : β → PV} {z : β} {zv : Value} {x : κ} {p : PV} {rn : List Nat} {v : Value} (hl : look T t = some ti) (hd : ti.d = .map kt et) (hK : KeyLaw P kt K)
  (hz : ∀ w, (zeroValue et).run P w = .ok zv w) (hzf : ∀ w F L, Rep w F L (f z) zv) (hlen : l.length = bs.length) (hm : MapR S p (l.map K) (bs.map f) rn) (hR : R fr S' L a w) (hn : ∀ n ∈ rn, S'.obj n = S.obj n) (hv : Rep w (fr.F L) L p v) (ok : Bool) :
  ∃ y, (Instr.lookup t v (K x) ok).run P w = .ok (if ok then .tuple #[y, .bool (mhas l x)] else y) w ∧ Rep w (fr.F L) L (f (mval l bs z x)) y := by
 have hu := und_map hT hl hd
 rcases hm.sound hR hn hv with ⟨rfl, h1, h2⟩ | ⟨b, es, clock, rfl, h1, h2, h3⟩
 ·have hl0 : l = [] := by simpa using h1
  subst hl0
  refine ⟨zv, ?_, ?_⟩
  ·simp only [Instr.lookup, Sem.run_bind, run_underlying hu, Result.andThen_ok, Sem.run_pure, hK.check, run_findKey hK x (es := []) (l := []) rfl, kidx, Option.map_none, hz, mhas, Option.isSome_none]
  ·simp only [mval, kidx]; exact hzf _ _ _
 ·have hg : (getObj b).run P w = .ok (.map es clock) w := by simp [getObj, Sem.run, h1]
  cases hk : kidx l x with
  | none =>
   refine ⟨zv, ?_, ?_⟩
   ·simp only [Instr.lookup, Sem.run_bind, run_underlying hu, Result.andThen_ok, Sem.run_pure, hg, hK.check, run_findKey hK x h2, hk, Option.map_none, hz, mhas, Option.isSome_none]
   ·simp only [mval, hk]; exact hzf _ _ _
  | some j =>
   obtain ⟨hj, _⟩ := kidx_some hk
   obtain ⟨y, hy, hr⟩ := repL_get h3 j (f (bs.getD j z)) (by
    rw [List.getElem?_map, List.getElem?_eq_getElem (by omega)]
    simp [List.getD, List.getElem?_eq_getElem (show j < bs.length by omega)])
   have hy' : ((es.toList[j]?).map (·.val)).getD undef = y := by
    rw [List.getElem?_map] at hy
    rw [hy]; rfl
   refine ⟨y, ?_, ?_⟩
   ·simp only [Instr.lookup, Sem.run_bind, run_underlying hu, Result.andThen_ok, Sem.run_pure, hg, hK.check, run_findKey hK x h2, hk, Option.map_some, hy', mhas, Option.isSome_some]
   ·simp only [mval, hk]; exact hr
theorem F_lookup [Globs P] (hT : TOk P T) (hγ : γ = true) {t kt et : TypeId} {ti : TI} {l : List κ} {bs : List β} {f : β → PV} {z : β} {zv : Value} {x : κ} {p : PV} {rn : List Nat} {xo io : Operand} (hx : OpdO γ S xo p) (hi : OpdO γ S io (.v (K x))) (hl : look T t = some ti) (hd : ti.d = .map kt et) (hK : KeyLaw P kt K)
  (hz : ∀ w, (zeroValue et).run P w = .ok zv w) (hzf : ∀ w F L, Rep w F L (f z) zv) (hm : MapR S p (l.map K) (bs.map f) rn) (hlen : Side (l.length = bs.length)) : FStep P ⟨dst, .lookup t xo io false, ty, pos, aft, g⟩ S rn ⟨f (mval l bs z x), []⟩ := by
 refine FStep.val fun fr S' L a w ht hn hR => ?_
 have h1 := hx.rep hγ hR (ht xo (by simp [Op.operands]))
 have h2 := (hi.rep hγ hR (ht io (by simp [Op.operands]))).inv_v
 obtain ⟨y, k1, k2⟩ := lookup_run (x := x) hT hl hd hK hz hzf hlen hm hR hn h1 false
 exact ⟨y, by simp only [execOp, Sem.run_bind, h2, k1, Result.andThen_ok, Sem.run_pure]; rfl, k2⟩
theorem R.putMap (hR : R fr S L a w) {o : Nat} {ks ks' : List Value} {vs vs' : List PV} {b : Nat} {es es' : Array MapEntry} (ho : S.obj o = some (.map ks vs)) (hl : L o = some (.map b)) (hb : w.heap[b]? = some (.map es es.size))
  (hk : es'.toList.map (·.key) = ks') (hbo : es'.toList.map (·.born) = List.range es'.size)
  (hv : ∀ w' F' L', Ext w (fr.F L) w' F' → LExt L L' → RepL w' F' L' vs' (es'.toList.map (·.val))) :
  R fr (S.upd [(o, .map ks' vs')]) L a { w with heap := w.heap.setIfInBounds b (.map es' es'.size) } ∧ Ext w (fr.F L) { w with heap := w.heap.setIfInBounds b (.map es' es'.size) } (fr.F L) := by
 obtain ⟨hs1, hs2⟩ := MapKept.heap_set (o' := .map es' es'.size) hb
 have hnew : fr.w0.heap.size ≤ b := by
  obtain ⟨_, h | ⟨p, _, hr⟩⟩ := hR.mem.place o _ b hl rfl
  ·exact h.1
  ·simp [Loc.range] at hr
 have hset : L.set o (.map b) = L := by
  funext n
  simp only [LMap.set]
  split
  ·rename_i e; rw [e, hl]
  ·rfl
 have hF : Frame0 fr { w with heap := w.heap.setIfInBounds b (.map es' es'.size) } := by
  have h := hR.mem.frame
  refine ⟨h.os, h.tape, h.output, by simpa using h.size, fun b' hb' hn => ?_, fun p hp => ?_, fun x hx => ?_, h.gpar⟩
  ·exact (hs2 b' (by omega)).trans (h.block b' hb' hn)
  ·obtain ⟨c, c', e, f, h1, h2, h3⟩ := h.part p hp
   have := hR.mem.parLt.1 p hp
   exact ⟨c, c', e, f, h1, (hs2 p.1 (by omega)).trans h2, h3⟩
  ·obtain ⟨v, h1, h2⟩ := h.glob x hx
   have := (h.gpar x hx).1
   exact ⟨v, (hs2 x.1 (by omega)).trans h1, h2⟩
 obtain ⟨h1, h2, h3⟩ := R.step' hR o (.map ks' vs') (.map b) hF (by simp) (fun b' _ hn => hs2 b' (fun e => hn _ hl (by rw [e]; rfl)))
  (fun l0 h => by rw [hl] at h; cases h; exact Loc.le_refl _)
  (fun b' hb' => .inl ⟨_, hl, hb', rfl⟩) (fun p hp => by simp [Loc.range] at hp)
  (fun hext hle => ⟨es', _, hs1, hk, hv _ _ _ hext hle, rfl, hbo⟩)
 rw [hset] at h1 h2
 exact ⟨h1, h2⟩
theorem keep_key {kt : TypeId} (hK : KeyLaw P kt K) (x : κ) : (Instr.keyThatStays (K x) (K x)).run P w = .ok (K x) w := by simp only [Instr.keyThatStays, hK.bits x, if_true, Sem.run_pure]
theorem map_entries {es : Array MapEntry} {l : List κ} (h : es.toList.map (·.key) = l.map K) {x : κ} {j : Nat} (hk : kidx l x = some j) : ∃ e, es[j]? = some e ∧ e.key = K x ∧ j < es.size := by
 obtain ⟨h1, h2⟩ := kidx_some hk
 have h3 : (es.toList.map (·.key))[j]? = some (K x) := by rw [h, List.getElem?_map, h2]; rfl
 rw [List.getElem?_map] at h3
 cases h4 : es.toList[j]? with
 | none => rw [h4] at h3; simp at h3
 | some e =>
  rw [h4] at h3
  simp at h3
  have h5 : es[j]? = some e := by simpa using h4
  exact ⟨e, h5, h3, (Array.getElem?_eq_some_iff.1 h5).1⟩
theorem map_modify_self {α β : Type} (g : α → β) (l : List α) (j : Nat) (F : α → α) (h : ∀ e, l[j]? = some e → g (F e) = g e) : (l.modify j F).map g = l.map g := by
 apply List.ext_getElem?
 intro i
 simp only [List.getElem?_map, List.getElem?_modify]
 cases hi : l[i]? with
 | none => rfl
 | some e =>
  by_cases hij : j = i
  ·subst hij; simp [h e hi]
  ·simp [hij]
theorem map_modify_set {α β : Type} (g : α → β) (l : List α) (j : Nat) (F : α → α) (v : β) (h : ∀ e, l[j]? = some e → g (F e) = v) : (l.modify j F).map g = (l.map g).set j v := by
 apply List.ext_getElem?
 intro i
 simp only [List.getElem?_map, List.getElem?_modify, List.getElem?_set, List.length_map]
 by_cases hij : j = i
 ·subst hij
  cases hi : l[j]? with
  | none => have := List.getElem?_eq_none_iff.1 hi; simp [this]
  | some e => have := (List.getElem?_eq_some_iff.1 hi).1; simp [h e hi, this]
 ·simp [hij]
theorem repL_set {w : World} {F : Nat → Prop} {L : LMap} : ∀ {ps : List PV} {vs : List Value}, RepL w F L ps vs → ∀ (j : Nat) {p : PV} {v : Value}, Rep w F L p v → RepL w F L (ps.set j p) (vs.set j v)
 | _, _, .nil _, j, p, v, _ => by simpa using RepL.nil L
 | _, _, .cons h t, 0, p, v, hv => .cons hv t
 | _, _, .cons h t, j + 1, p, v, hv => .cons h (repL_set t j hv)
theorem repL_snoc {w : World} {F : Nat → Prop} {L : LMap} : ∀ {ps : List PV} {vs : List Value}, RepL w F L ps vs → ∀ {p : PV} {v : Value}, Rep w F L p v → RepL w F L (ps ++ [p]) (vs ++ [v])
 | _, _, .nil _, p, v, hv => .cons hv (.nil _)
 | _, _, .cons h t, p, v, hv => .cons h (repL_snoc t hv)
def esPut (es : Array MapEntry) (l : List κ) (K : κ → Value) (x : κ) (v : Value) : Array MapEntry := match kidx l x with | some j => es.modify j fun e => { e with key := K x, val := v } | none => es.push { key := K x, val := v, born := es.size }
theorem esPut_spec {es : Array MapEntry} {l : List κ} (h : es.toList.map (·.key) = l.map K) (hb : es.toList.map (·.born) = List.range es.size) (x : κ) (v : Value) :
  (esPut es l K x v).toList.map (·.key) = (mkeys l x).map K ∧ (esPut es l K x v).toList.map (·.born) = List.range (esPut es l K x v).size ∧
  ∀ (bs : List β) (f : β → PV) (u : β) w F L, l.length = bs.length → RepL w F L (bs.map f) (es.toList.map (·.val)) → Rep w F L (f u) v → RepL w F L ((mset l bs x u).map f) ((esPut es l K x v).toList.map (·.val)) := by
 simp only [esPut, mkeys, mset]
 cases hk : kidx l x with
 | none =>
  simp only [Array.toList_push, List.map_append, List.map_cons, List.map_nil, Array.size_push, h, hb, List.range_succ, true_and]
  intro bs f u w F L _ h1 h2
  exact repL_snoc h1 h2
 | some j =>
  obtain ⟨e, h1, h2, h3⟩ := map_entries h hk
  have hj : es.toList[j]? = some e := by simpa using h1
  simp only [Array.toList_modify, Array.size_modify]
  refine ⟨?_, ?_, fun bs f u w F L _ g1 g2 => ?_⟩
  ·rw [map_modify_self, h]
   intro e' he'
   rw [hj] at he'; cases he'; exact h2.symm
  ·rw [map_modify_self, hb]
   intro e' he'; rfl
  ·rw [map_modify_set _ _ _ _ v (fun _ _ => rfl), List.map_set]
   exact repL_set g1 j g2
theorem F_mapUpdate [Globs P] (hT : TOk P T) (hγ : γ = true) {t kt et : TypeId} {ti : TI} {o : Nat} {l : List κ} {bs : List β} {f : β → PV} {u : β} {x : κ} {xo io vo : Operand} (hx : OpdO γ S xo (.mref o)) (hi : OpdO γ S io (.v (K x))) (hv : OpdO γ S vo (f u)) (hl : look T t = some ti) (hd : ti.d = .map kt et) (hK : KeyLaw P kt K)
  (hm : S.obj o = some (.map (l.map K) (bs.map f))) (hlen : Side (l.length = bs.length)) : FStep P ⟨none, .mapUpdate t xo io vo, ty, pos, aft, g⟩ S [o] ⟨.v undef, [(o, .map ((mkeys l x).map K) ((mset l bs x u).map f))]⟩ := by
 intro fr S' ht hn L a w hR hG Q
 have h1 := hx.rep hγ hR (fun t e => ht t (mem_tmps (x := xo) (by simp [Op.operands]) t e))
 have h2 := (hi.rep hγ hR (fun t e => ht t (mem_tmps (x := io) (by simp [Op.operands]) t e))).inv_v
 have h3 := hv.rep hγ hR (fun t e => ht t (mem_tmps (x := vo) (by simp [Op.operands]) t e))
 have hu := und_map hT hl hd
 have ho := (hn _ (by simp)).trans hm
 obtain ⟨b, es, k1, k2, k3, k4, k5⟩ := hR.map ho
 have hxe : a.eval xo = .map (some b) := by
  cases h1 with
  | mref q1 q2 q3 => rw [k1] at q1; cases q1; exact q2
 obtain ⟨s1, s2, s3⟩ := esPut_spec k3 k5 x (a.eval vo)
 have hP := R.putMap (vs' := (mset l bs x u).map f) hR ho k1 k2 s1 s2 (fun w' F' L' he hle => s3 bs f u w' F' L' hlen (k4.mono he hle) (h3.mono he hle))
 have hg : (getObj b).run P w = .ok (.map es es.size) w := by simp [getObj, Sem.run, k2]
 have hrun : (execOp a.eval ⟨none, .mapUpdate t xo io vo, ty, pos, aft, g⟩).run P w = .ok .skip { w with heap := w.heap.setIfInBounds b (.map (esPut es l K x (a.eval vo)) (esPut es l K x (a.eval vo)).size) } := by
  simp only [execOp, Instr.mapUpdate, Sem.run_bind, run_underlying hu, Result.andThen_ok, hxe, h2, hg, hK.check, run_findKey hK x k3]
  cases hk : kidx l x with
  | none => simp [esPut, hk, MapKept.run_setObj_map _ k2]
  | some j =>
   obtain ⟨e, g1, g2, _⟩ := map_entries k3 hk
   simp [esPut, hk, g1, g2, keep_key hK, MapKept.run_setObj_map _ k2]
 unfold Oper.wp
 rw [hrun, Oper.upon_skip]
 exact ⟨undef, _, rfl, hP.1, .v _ _⟩
end
def HoldsAt (P : Program) [Globs P] (g off : Nat) (v : Value) : Prop := ∃ φ, (g, φ) ∈ Globs.gl P ∧ ∀ ob, φ ob → ∃ cs e f, ob = .cells cs e f ∧ cs[off]? = some v
theorem glob_at [Globs P] {b off : Nat} {v : Value} (hR : R fr S' L a w) (hG : fr.gl = Globs.gl P) (h : HoldsAt P b off v) : w.cell? ⟨b, off, none⟩ = some v := by
 obtain ⟨φ, h1, h2⟩ := h
 obtain ⟨ob, g1, g2⟩ := hR.mem.frame.glob (b, φ) (hG ▸ h1)
 obtain ⟨cs, e, f, rfl, g3⟩ := h2 ob g2
 simp only at g1
 simp [World.cell?, g1, g3]
theorem F_indexGlob [Globs P] (hT : TOk P T) (hγ : γ = true) {t e m b off sz : Nat} {x y : Operand} {ti ei : TI} {k : IntKind} {i : Int} (hx : OpdO γ S x (.v (.pointer (some ⟨b, off, none⟩)))) (hy : OpdO γ S y (.v (.int k i)))
  (hl : look T t = some ti) (htd : ti.d = .array m e) (hle : look T e = some ei) (hsz : ei.size = sz) (hb : Side (0 ≤ i ∧ i < m)) : FStep P ⟨dst, .indexAddr t x y, ty, pos, aft, g⟩ S [] ⟨.v (.pointer (some ⟨b, off + i.toNat * sz, none⟩)), []⟩ := by
 refine FStep.val fun fr S' L a w ht hn hR => ?_
 have hr := (hx.rep hγ hR (ht x (by simp [Op.operands]))).inv_v
 have hi := (hy.rep hγ hR (ht y (by simp [Op.operands]))).inv_v
 have hso : (sizeOf e).run P w = .ok sz w := by rw [size_of hT hle, hsz]
 have hu := und_array hT hl htd
 have hb' : 0 ≤ i ∧ i < _ := hb
 refine ⟨_, ?_, .v _ _⟩
 simp [execOp, Instr.indexAt, hr, hi, asIntOf, run_underlying hu, Instr.sureAddr, hb', hso, Addr.add_lit]
theorem F_loadGlob [Globs P] (hT : TOk P T) (hγ : γ = true) {t b off : Nat} {x : Operand} {ti : TI} {v : Value} (hx : OpdO γ S x (.v (.pointer (some ⟨b, off, none⟩)))) (hl : look T t = some ti) (hag : ti.agg = none) (hv : HoldsAt P b off v) :
  FStep P ⟨dst, .load t x, ty, pos, aft, g⟩ S [] ⟨.v v, []⟩ := by
 intro fr S' ht hn L a w hR hG Q
 have hr := (hx.rep hγ hR (fun t e => ht t (mem_tmps (x := x) (by simp [Op.operands]) t e))).inv_v
 have h1 := glob_at hR hG hv
 have hld := run_loadVar1 hT hl hag h1
 have hrun : (execOp a.eval ⟨dst, .load t x, ty, pos, aft, g⟩).run P w = .ok (.value v) w := by simp [execOp, Instr.loadAt, hr, Instr.sureAddr, hld]
 unfold Oper.wp
 rw [hrun, Oper.upon_value]
 exact ⟨v, L, rfl, hR.eqv ⟨fun _ => rfl, fun n => by simp [look]⟩, .v _ _⟩
end
end Go.Sym
namespace Go.Sym
open Go.RowKit
section
variable {P : Program} {T : Tbl} {fr : Fr} {S S' : St} {L : LMap} {a : Act} {w : World} {γ : Bool}
variable {dst : Option Tmp} {ty : Nat} {pos : String} {aft : Array Edge} {g : Option (Nat × Bool)}
theorem bytesWorld_heap (w : World) (e : TypeId) (s : ByteArray) : (Lib.bytesWorld w e s).os = w.os ∧ (Lib.bytesWorld w e s).tape = w.tape ∧ (Lib.bytesWorld w e s).output = w.output := by
 refine ⟨?_, ?_, ?_⟩ <;> simp [Lib.bytesWorld, World.freeze, World.alloc, World.drew, -World.alloc_eq, -World.drew_eq]
theorem Frame0.grow {fr : Fr} {w w' : World} (h : Frame0 fr w) (hp : ∀ p ∈ fr.par, p.1 < fr.w0.heap.size) (h1 : w'.os = w.os) (h2 : w'.tape = w.tape) (h3 : w'.output = w.output) (hsz : w.heap.size ≤ w'.heap.size)
  (hold : ∀ b, b < w.heap.size → w'.heap[b]? = w.heap[b]?) : Frame0 fr w' := by
 refine ⟨h1.trans h.os, h2.trans h.tape, h3.trans h.output, Nat.le_trans h.size hsz, fun b hb hn => ?_, fun p hpm => ?_, fun x hx => ?_, h.gpar⟩
 ·exact (hold b (Nat.lt_of_lt_of_le hb h.size)).trans (h.block b hb hn)
 ·obtain ⟨c, c', e, f, k1, k2, k3⟩ := h.part p hpm
  exact ⟨c, c', e, f, k1, (hold p.1 (Nat.lt_of_lt_of_le (hp p hpm) h.size)).trans k2, k3⟩
 ·obtain ⟨v, k1, k2⟩ := h.glob x hx
  exact ⟨v, (hold x.1 (Nat.lt_of_lt_of_le (h.gpar x hx).1 h.size)).trans k1, k2⟩
theorem cells_u8 : ∀ l : List UInt8, cellsOf (l.map u8V) = l.map u8V
 | [] => rfl
 | b :: r => by
  have ih := cells_u8 r
  simp only [List.map_cons, cellsOf, List.flatMap_cons, PV.cells] at ih ⊢
  rw [ih]; rfl
theorem F_stringToBytes [Globs P] (hT : TOk P T) (hγ : γ = true) {k s t e : Nat} {x : Operand} {l : List UInt8} {si ti ei : TI} (hx : OpdO γ S x (sV l)) (hs : look T s = some si) (hsd : si.d = .str) (hl : look T t = some ti) (htd : ti.d = .slice e)
  (hle : look T e = some ei) (hed : ei.d = .int .u8) (hk : S.obj k = none) : FStep P ⟨some k, .convert s t x, ty, pos, aft, g⟩ S [k] ⟨.osl k 0 l.length l.length, [(k, .arr 1 false (l.map u8V))]⟩ := by
 intro fr S' ht hn L a w hR hG Q
 have h1 := (hx.rep hγ hR (fun t e => ht t (mem_tmps (x := x) (by simp [Op.operands]) t e))).inv_v
 have hno := hR.noL ((hn k (by simp)).trans hk)
 have hconv := Lib.run_convert_string_bytes w s t e ⟨⟨l⟩⟩ (und_str hT hs hsd) (und_slice hT hl htd) (und_int hT hle hed)
 have hsz : (⟨⟨l⟩⟩ : ByteArray).size = l.length := rfl
 rw [hsz] at hconv
 have hcap : l.length ≤ grownCap w l.length 0 e := by exact grownCap_ge w l.length 0 e
 have hcells : (Lib.bytesCells w e ⟨⟨l⟩⟩).toList = (l.map fun b => Value.int .u8 (b.toNat : Int)) ++ List.replicate (grownCap w l.length 0 e - l.length) (.int .u8 0) := by simp [Lib.bytesCells, hsz]
 have hclen : (Lib.bytesCells w e ⟨⟨l⟩⟩).size = grownCap w l.length 0 e := by rw [← Array.length_toList, hcells]; simp; omega
 have hnew := Lib.bytesWorld_at_new w e ⟨⟨l⟩⟩
 have hwsz := Lib.bytesWorld_size w e ⟨⟨l⟩⟩
 have hold := Lib.bytesWorld_at_old w e ⟨⟨l⟩⟩
 obtain ⟨q1, q2, q3⟩ := bytesWorld_heap w e ⟨⟨l⟩⟩
 generalize Lib.bytesWorld w e ⟨⟨l⟩⟩ = w' at *
 generalize Lib.bytesCells w e ⟨⟨l⟩⟩ = cs at *
 generalize grownCap w l.length 0 e = cap at *
 have hcell : ∀ j (hj : j < cs.size), w'.cell? ⟨w.heap.size, j, none⟩ = some cs[j] ∧ w'.frozen? ⟨w.heap.size, j, none⟩ = false := fun j hj => by
  refine ⟨by simp [World.cell?, hnew, hj], ?_⟩
  simp only [World.frozen?, hnew]
  simp; omega
 have hb1 : ∀ (F : Nat → Prop) (L' : LMap), CellsAt w' F L' (cellsOf (l.map u8V)) w.heap.size 0 := by
  intro F L' j c hc
  rw [cells_u8, List.getElem?_map] at hc
  cases hj : l[j]? with
  | none => rw [hj] at hc; simp at hc
  | some b =>
   rw [hj] at hc
   simp at hc
   subst hc
   have hjl := (List.getElem?_eq_some_iff.1 hj).1
   have hjc : j < cs.size := by omega
   have hv : cs[j] = .int .u8 (b.toNat : Int) := by
    have : cs.toList[j]? = some (.int .u8 (b.toNat : Int)) := by rw [hcells, List.getElem?_append_left (by simpa using hjl), List.getElem?_map, hj]; rfl
    rw [Array.getElem?_toList, Array.getElem?_eq_getElem hjc] at this
    exact Option.some.inj this
   obtain ⟨g1, g2⟩ := hcell j hjc
   refine ⟨_, by simpa using g1, by simpa using g2, ?_⟩
   rw [hv]; exact .v _ _
 have hb2 : ∀ j, j < cap * 1 → ∃ x, w'.cell? ⟨w.heap.size, 0 + j, none⟩ = some x ∧ w'.frozen? ⟨w.heap.size, 0 + j, none⟩ = false := by
  intro j hj
  obtain ⟨g1, g2⟩ := hcell j (by omega)
  exact ⟨_, by simpa using g1, by simpa using g2⟩
 obtain ⟨k1, k2, k3⟩ := R.step' hR k (.arr 1 false (l.map u8V)) (.arr (some (w.heap.size, 0)) l.length cap 1) (hR.mem.frame.grow hR.mem.parLt.1 q1 q2 q3 (by omega) hold) (by omega) (fun b hb _ => hold b hb) (fun l0 h => (hno l0 h).elim)
  (fun b hb => .inr (by simp [Loc.blk] at hb; subst hb; omega)) (fun p hp => by simp [Loc.range] at hp; subst hp; exact ⟨_, _, _, hnew, .inr ⟨rfl, rfl⟩⟩)
  (fun hext hlx => ⟨rfl, by simp, hcap, rfl, fun q hq => by obtain ⟨b, _, rfl⟩ := List.mem_map.1 hq; rfl, hb1 _ _, hb2⟩)
 unfold Oper.wp
 have hrun : (execOp a.eval ⟨some k, .convert s t x, ty, pos, aft, g⟩).run P w = .ok (.value (.slice (some ⟨w.heap.size, 0, none⟩) l.length cap)) w' := by
  simp only [execOp, Sem.run_bind, h1, hconv, Result.andThen_ok, Sem.run_pure]
 rw [hrun, Oper.upon_value]
 exact ⟨_, _, rfl, k1, oslFull (off := 0) (sz := 1) (by simp [LMap.set]) hcap⟩
structure Grown (w w' : World) : Prop where
 os : w'.os = w.os
 tape : w'.tape = w.tape
 output : w'.output = w.output
 size : w.heap.size ≤ w'.heap.size
 old : ∀ b, b < w.heap.size → w'.heap[b]? = w.heap[b]?
theorem Grown.refl (w : World) : Grown w w := ⟨rfl, rfl, rfl, Nat.le_refl _, fun _ _ => rfl⟩
theorem Grown.trans {w w1 w2 : World} (h : Grown w w1) (k : Grown w1 w2) : Grown w w2 :=
 ⟨k.os.trans h.os, k.tape.trans h.tape, k.output.trans h.output, Nat.le_trans h.size k.size, fun b hb => (k.old b (Nat.lt_of_lt_of_le hb h.size)).trans (h.old b hb)⟩
def Globals (P : Program) [Globs P] (w : World) : Prop := ∀ x ∈ Globs.gl P, ∃ v, w.heap[x.1]? = some v ∧ x.2 v
theorem Ctr.of_calls [Globs P] {f : FuncId} {ps : List PV} {r : PV} {xs : List Value} {y : Value} (hc : callable P f) (hps : ps = xs.map .v) (hr : ∀ w F L, Rep w F L r y)
  (h : ∀ w, Globals P w → Calls P f xs.toArray w fun e w' => e = .returned y ∧ Grown w w') : Ctr P f ps [] r [] [] := by
 refine ⟨hc, fun fr w vals h0 hG hM hv => ?_⟩
 subst hps
 have hvals : ∀ (xs vals : List Value), RepL w (fr.F fr.L0) fr.L0 (xs.map .v) vals → vals = xs := by
  intro xs
  induction xs with
  | nil => intro vals h; cases h; rfl
  | cons x r ih => intro vals h; cases h with | cons h1 h2 => rw [h1.inv_v, ih _ h2]
 rw [hvals xs vals hv]
 refine (h w (fun x hx => hM.frame.glob x (hG ▸ hx))).mono ?_
 rintro e w' ⟨rfl, hg⟩
 have hno : ∀ n l, fr.L0 n = some l → False := fun n l hn => by
  obtain ⟨ob, hob⟩ := hM.dom n l hn
  simp [named, St.obj, look] at hob
 refine ⟨y, fr.L0, rfl, rfl, ⟨fun n ob hn => ?_, fun n l hn => (hno n l hn).elim, fun n n' l l' b hn => (hno n l hn).elim, fun n l b hn => (hno n l hn).elim, fun n l p hn => (hno n l hn).elim, hM.parLt, hM.xLt, ?_, hM.lext⟩, hr _ _ _⟩
 ·simp [named, St.obj, look] at hn
 ·exact hM.frame.grow hM.parLt.1 hg.os hg.tape hg.output hg.size hg.old
end
end Go.Sym
