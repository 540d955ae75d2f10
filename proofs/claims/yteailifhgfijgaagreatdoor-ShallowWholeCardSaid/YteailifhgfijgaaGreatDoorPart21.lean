/- A part of the proof: GShw, SymZB, SymZC, SymZD, SymZE, SymZF. -/
import Derived.Test.YteailifhgfijgaaGreatDoorPart20
import Derived.Lib.ConvBytes
set_option linter.unusedVariables false
set_option linter.unusedSimpArgs false
namespace Go.Graft
open Go.Sym
theorem seenL_mem (l : List Str) (x : Str) : x ∈ (seenL l).1 ↔ x ∈ l := by
 have key : ∀ i, i ≤ l.length → (x ∈ (seenN l i).1 ↔ x ∈ l.take i) := by
  intro i
  induction i with
  | zero => intro _; simp [seenN]
  | succ i ih =>
   intro hi
   rw [seenN, mem_mkeys, ih (by omega), take_snoc l i (by omega), List.mem_append, List.mem_singleton]
   exact Or.comm
 rw [seenL, key _ (Nat.le_refl _), List.take_length]
theorem mkeys_nodup {l : List Str} (x : Str) (h : l.Nodup) : (mkeys l x).Nodup := by
 rw [mkeys]
 split
 ·exact h
 ·rename_i hk
  have := kidx_none.1 hk
  rw [List.nodup_append]
  exact ⟨h, by simp, by intro a ha b hb; rw [List.mem_singleton] at hb; subst hb; intro e; subst e; exact this ha⟩
theorem seenL_nodup (l : List Str) : (seenL l).1.Nodup := by
 have key : ∀ i, (seenN l i).1.Nodup := by
  intro i
  induction i with
  | zero => exact List.nodup_nil
  | succ i ih => rw [seenN]; exact mkeys_nodup _ ih
 exact key _
def rdE (l : List It) (id : Str) : Int := if placed l id = false then 171 else if l[place l id]!.kind ≠ 3 then 140 else (comP l[place l id]!.body).1
def rdP (l : List It) (cuts : List Str) (id : Str) : List Str := if rdE l id ≠ 0 then [] else if hasS cuts id = true then [] else (comP l[place l id]!.body).2.pars
theorem rdP_len (l : List It) (cuts : List Str) (id : Str) (hb : ∀ x ∈ l, x.body.length ≤ 3000) : (rdP l cuts id).length ≤ 3000 := by
 rw [rdP]
 split
 ·simp
 ·rename_i h
  split
  ·simp
  ·have hp : placed l id = true := by
    cases hp : placed l id with
    | true => rfl
    | false => rw [rdE, hp, if_pos rfl] at h; simp at h
   have := comR_len l[place l id]!.body
   rw [com_same]
   exact Nat.le_trans this (hb _ (bang_mem (placed_lt hp).1))
theorem rdE_placed {l : List It} {id : Str} (h : rdE l id = 0) : placed l id = true := by
 cases hp : placed l id with
 | true => rfl
 | false => rw [rdE, hp, if_pos rfl] at h; simp at h
def errF (l : List It) : List Str → Int
 | [] => 0
 | x :: r => if rdE l x ≠ 0 then rdE l x else errF l r
theorem errF_app (l : List It) : ∀ a b, errF l a = 0 → errF l (a ++ b) = errF l b
 | [], _, _ => rfl
 | x :: r, b, h => by
  rw [errF] at h
  split at h
  ·rename_i hx; exact absurd h hx
  ·rename_i hx; rw [List.cons_append, errF, if_neg hx, errF_app l r b h]
theorem errF_bad (l : List It) {a : List Str} {x : Str} (b : List Str) (h : errF l a = 0) (hx : rdE l x ≠ 0) : errF l (a ++ x :: b) = rdE l x := by
 rw [errF_app l a _ h, errF, if_pos hx]
theorem errF_zero (l : List It) : ∀ {a : List Str}, errF l a = 0 ↔ ∀ x ∈ a, rdE l x = 0
 | [] => by simp [errF]
 | x :: r => by
  rw [errF]
  by_cases h : rdE l x = 0
  ·rw [if_neg (by simp [h]), errF_zero l (a := r)]; simp [h]
  ·rw [if_pos h]; simp [h]
def flatP (l : List It) (cuts : List Str) (a : List Str) : List Str := a.flatMap (rdP l cuts)
def nextR (l : List It) (cuts level met : List Str) : List Str := sortS ((flatP l cuts level).filter fun x => !hasS met x)
def endsR (l : List It) (cuts level : List Str) : List Str := sortS (level.filter fun x => !(rdP l cuts x).isEmpty)
def depR (l : List It) (cuts : List Str) : Nat → List Str → List Str → List Str × List Str × Int
 | 0, _, met => (met, [], 0)
 | r + 1, level, met => if level = [] then (met, [], 0) else if errF l level ≠ 0 then ([], [], errF l level) else if r = 0 then (sortS (met ++ level), endsR l cuts level, 0) else depR l cuts r (nextR l cuts level (sortS (met ++ level))) (sortS (met ++ level))
theorem sortS_uniq {a b : List Str} (h : ∀ x, x ∈ a ↔ x ∈ b) : sortS a = sortS b := asc_unique (sortS_asc a) (sortS_asc b) fun x => by rw [sortS_mem, sortS_mem, h]
theorem asc_filter {l : List Str} (h : asc l) (q : Str → Bool) : asc (l.filter q) := List.Pairwise.filter q h
def fresh (S f : List Str) : List Str := f.filter fun x => !hasS S x
theorem depR_next {l : List It} {cuts : List Str} {r : Nat} {f S S' N f' : List Str} (hS : ∀ x, x ∈ S' ↔ x ∈ S ∨ x ∈ fresh S f) (hN : ∀ x, x ∈ N ↔ x ∈ flatP l cuts (fresh S f)) (hf : asc f') (hf' : ∀ x, x ∈ f' ↔ x ∈ N) (he : errF l (fresh S f) = 0) (hne : fresh S f ≠ []) (hr : r ≠ 0) :
  depR l cuts (r + 1) (fresh S f) (sortS S) = depR l cuts r (fresh S' f') (sortS S') := by
 have h1 : sortS (sortS S ++ fresh S f) = sortS S' := sortS_uniq fun x => by rw [List.mem_append, sortS_mem, hS]
 rw [depR, if_neg hne, if_neg (by simp [he]), if_neg hr, h1]
 congr 1
 refine asc_unique (by rw [nextR]; exact sortS_asc _) (asc_filter hf _) fun x => ?_
 rw [nextR, sortS_mem, List.mem_filter, show fresh S' f' = f'.filter fun x => !hasS S' x from rfl, List.mem_filter, hf' x, hN x]
 have : hasS (sortS S') x = hasS S' x := by rw [Bool.eq_iff_iff, hasS_iff, hasS_iff, sortS_mem]
 rw [this]
theorem depR_none {l : List It} {cuts : List Str} {r : Nat} {f S : List Str} (h : fresh S f = []) : depR l cuts r (fresh S f) (sortS S) = (sortS S, [], 0) := by
 cases r with
 | zero => rfl
 | succ r => rw [depR, if_pos h]
structure Dep where
 S : List Str
 C : List Str
 N : List Str
structure DepI (l : List It) (cuts : List Str) (last : Bool) (f : List Str) (S C : List Str) (i : Nat) (d : Dep) : Prop where
 s : ∀ x, x ∈ d.S ↔ x ∈ S ∨ x ∈ fresh S (f.take i)
 c : ∀ x, x ∈ d.C ↔ x ∈ C ∨ (last = true ∧ x ∈ fresh S (f.take i) ∧ rdP l cuts x ≠ [])
 n : ∀ x, x ∈ d.N ↔ x ∈ flatP l cuts (fresh S (f.take i))
 e : errF l (fresh S (f.take i)) = 0
 nd : d.S.Nodup
 cnd : d.C.Nodup
 csub : ∀ x ∈ d.C, x ∈ d.S
theorem DepI.zero {l : List It} {cuts : List Str} {last : Bool} {f S C : List Str} (h : S.Nodup) (hc : C.Nodup) (hcs : ∀ x ∈ C, x ∈ S) : DepI l cuts last f S C 0 ⟨S, C, []⟩ :=
 ⟨by simp [fresh], by simp [fresh], by simp [fresh, flatP], rfl, h, hc, hcs⟩
theorem fresh_snoc (S f : List Str) {i : Nat} (h : i < f.length) : fresh S (f.take (i + 1)) = fresh S (f.take i) ++ if hasS S f[i]! = true then [] else [f[i]!] := by
 rw [fresh, fresh, take_snoc f i h, List.filter_append]
 congr 1
 split
 ·rename_i hx; rw [List.filter_cons_of_neg (by rw [hx]; simp)]; rfl
 ·rename_i hx; rw [List.filter_cons_of_pos (by simpa using hx)]; rfl
theorem DepI.old {l : List It} {cuts : List Str} {last : Bool} {f S C : List Str} {i : Nat} {d : Dep} (h : DepI l cuts last f S C i d) (hi : i < f.length) (hx : hasS d.S f[i]! = true) : DepI l cuts last f S C (i + 1) d := by
 have hx2 := (h.s _).1 ((hasS_iff _ _).1 hx)
 have hm : ∀ x, x ∈ fresh S (f.take (i + 1)) ↔ x ∈ fresh S (f.take i) := fun x => by
  rw [fresh_snoc S f hi, List.mem_append]
  refine ⟨fun k => k.elim id fun k => ?_, .inl⟩
  split at k
  ·simp at k
  ·rename_i hn
   rw [List.mem_singleton] at k
   subst k
   exact hx2.resolve_left fun k => hn ((hasS_iff _ _).2 k)
 refine ⟨fun x => by rw [h.s, hm], fun x => by rw [h.c, hm], fun x => ?_, ?_, h.nd, h.cnd, h.csub⟩
 ·rw [h.n, flatP, flatP, List.mem_flatMap, List.mem_flatMap]
  exact exists_congr fun a => by rw [hm]
 ·rw [errF_zero]
  exact fun x hx => (errF_zero l).1 h.e x ((hm x).1 hx)
theorem DepI.new {l : List It} {cuts : List Str} {last : Bool} {f S C : List Str} {i : Nat} {d : Dep} (h : DepI l cuts last f S C i d) (hi : i < f.length) (hx : hasS d.S f[i]! = false) (he : rdE l f[i]! = 0) : DepI l cuts last f S C (i + 1) ⟨d.S ++ [f[i]!], if (last && !(rdP l cuts f[i]!).isEmpty) = true then d.C ++ [f[i]!] else d.C, d.N ++ rdP l cuts f[i]!⟩ := by
 have hx1 : f[i]! ∉ d.S := fun k => by rw [(hasS_iff _ _).2 k] at hx; simp at hx
 have hxS : hasS S f[i]! = false := by
  cases hq : hasS S f[i]! with
  | false => rfl
  | true => exact absurd ((h.s _).2 (.inl ((hasS_iff _ _).1 hq))) hx1
 have hfr : fresh S (f.take (i + 1)) = fresh S (f.take i) ++ [f[i]!] := by rw [fresh_snoc S f hi, hxS]; rfl
 have hm : ∀ x, x ∈ fresh S (f.take (i + 1)) ↔ x ∈ fresh S (f.take i) ∨ x = f[i]! := fun x => by rw [hfr, List.mem_append, List.mem_singleton]
 have hnd : ∀ {X : List Str}, X.Nodup → f[i]! ∉ X → (X ++ [f[i]!]).Nodup := fun hX hn => by
  rw [List.nodup_append]
  exact ⟨hX, by simp, by intro a ha b hb; rw [List.mem_singleton] at hb; subst hb; intro e; subst e; exact hn ha⟩
 refine ⟨fun x => ?_, fun x => ?_, fun x => ?_, ?_, hnd h.nd hx1, ?_, fun x hxc => ?_⟩
 ·simp only [List.mem_append, List.mem_singleton]; rw [h.s, hm, or_assoc]
 ·dsimp only
  split
  ·rename_i hl
   rw [Bool.and_eq_true, Bool.not_eq_true', List.isEmpty_eq_false_iff] at hl
   rw [List.mem_append, List.mem_singleton, h.c, hm]
   constructor
   ·rintro ((k | ⟨k1, k2, k3⟩) | rfl)
    ·exact .inl k
    ·exact .inr ⟨k1, .inl k2, k3⟩
    ·exact .inr ⟨hl.1, .inr rfl, hl.2⟩
   ·rintro (k | ⟨k1, k2 | rfl, k3⟩)
    ·exact .inl (.inl k)
    ·exact .inl (.inr ⟨k1, k2, k3⟩)
    ·exact .inr rfl
  ·rename_i hl
   rw [h.c, hm]
   constructor
   ·rintro (k | ⟨k1, k2, k3⟩)
    ·exact .inl k
    ·exact .inr ⟨k1, .inl k2, k3⟩
   ·rintro (k | ⟨k1, k2 | rfl, k3⟩)
    ·exact .inl k
    ·exact .inr ⟨k1, k2, k3⟩
    ·refine absurd ?_ hl
     rw [Bool.and_eq_true, Bool.not_eq_true', List.isEmpty_eq_false_iff]
     exact ⟨k1, k3⟩
 ·dsimp only
  rw [List.mem_append, h.n, hfr, flatP, flatP, List.flatMap_append, List.mem_append]
  simp
 ·rw [hfr, errF_app l _ _ h.e, errF, if_neg (fun k => k he)]; rfl
 ·dsimp only
  split
  ·exact hnd h.cnd fun k => hx1 (h.csub _ k)
  ·exact h.cnd
 ·dsimp only at hxc ⊢
  rw [List.mem_append, List.mem_singleton]
  split at hxc
  ·rw [List.mem_append, List.mem_singleton] at hxc
   exact hxc.imp (h.csub x) id
  ·exact .inl (h.csub x hxc)
theorem DepI.bad {l : List It} {cuts : List Str} {last : Bool} {f S C : List Str} {i : Nat} {d : Dep} (h : DepI l cuts last f S C i d) (hi : i < f.length) (hx : hasS d.S f[i]! = false) (he : rdE l f[i]! ≠ 0) : errF l (fresh S f) = rdE l f[i]! := by
 have hx1 : f[i]! ∉ d.S := fun k => by rw [(hasS_iff _ _).2 k] at hx; simp at hx
 have hxS : hasS S f[i]! = false := by
  cases hq : hasS S f[i]! with
  | false => rfl
  | true => exact absurd ((h.s _).2 (.inl ((hasS_iff _ _).1 hq))) hx1
 have e1 : fresh S f = fresh S (f.take i) ++ f[i]! :: fresh S (f.drop (i + 1)) := by
  conv => lhs; rw [← List.take_append_drop (i + 1) f]
  rw [fresh, List.filter_append]
  have := fresh_snoc S f hi
  rw [hxS] at this
  rw [fresh] at this
  rw [this, List.append_assoc]; rfl
 rw [e1, errF_bad l _ h.e he]
end Go.Graft
namespace Go.Sym
open Go.RowKit
section
variable {P : Program} {T : Tbl} {fr : Fr} {S S' : St} {L : LMap} {a : Act} {w : World} {γ : Bool}
variable {dst : Option Tmp} {ty : Nat} {pos : String} {aft : Array Edge} {g : Option (Nat × Bool)}
theorem bytesWorld_heap (w : World) (e : TypeId) (s : ByteArray) : (Lib.bytesWorld w e s).os = w.os ∧ (Lib.bytesWorld w e s).tape = w.tape ∧ (Lib.bytesWorld w e s).output = w.output := by
 refine ⟨?_, ?_, ?_⟩ <;> simp [Lib.bytesWorld, World.freeze, World.alloc, World.drew, -World.alloc_eq, -World.drew_eq]
theorem Frame0.grow {fr : Fr} {w w' : World} (h : Frame0 fr w) (hp : ∀ p ∈ fr.par, p.1 < fr.w0.heap.size) (h1 : w'.os = w.os) (h2 : w'.tape = w.tape) (h3 : w'.output = w.output) (hsz : w.heap.size ≤ w'.heap.size)
  (hold : ∀ b, b < w.heap.size → w'.heap[b]? = w.heap[b]?) : Frame0 fr w' := by
 refine ⟨h1.trans h.os, h2.trans h.tape, h3.trans h.output, Nat.le_trans h.size hsz, fun b hb hn => ?_, fun p hpm => ?_, fun x hx => ?_, h.gpar⟩
 ·exact (hold b (Nat.lt_of_lt_of_le hb h.size)).trans (h.block b hb hn)
 ·obtain ⟨o, o', k1, k2, k3⟩ := h.part p hpm
  exact ⟨o, o', k1, (hold p.1 (Nat.lt_of_lt_of_le (hp p hpm) h.size)).trans k2, k3⟩
 ·obtain ⟨v, k1, k2⟩ := h.glob x hx
  exact ⟨v, (hold x.1 (Nat.lt_of_lt_of_le (h.gpar x hx).1 h.size)).trans k1, k2⟩
structure Grown (w w' : World) : Prop where
 os : w'.os = w.os
 tape : w'.tape = w.tape
 output : w'.output = w.output
 size : w.heap.size ≤ w'.heap.size
 old : ∀ b, b < w.heap.size → w'.heap[b]? = w.heap[b]?
theorem Grown.refl (w : World) : Grown w w := ⟨rfl, rfl, rfl, Nat.le_refl _, fun _ _ => rfl⟩
theorem Grown.trans {w w1 w2 : World} (h : Grown w w1) (k : Grown w1 w2) : Grown w w2 :=
 ⟨k.os.trans h.os, k.tape.trans h.tape, k.output.trans h.output, Nat.le_trans h.size k.size, fun b hb => (k.old b (Nat.lt_of_lt_of_le hb h.size)).trans (h.old b hb)⟩
def Globals (P : Program) [Globs P] (w : World) : Prop := ∀ x ∈ Globs.gl P, ∃ v, w.heap[x.1]? = some v ∧ x.2 v
theorem Ctr.of_calls [Globs P] {f : FuncId} {ps : List PV} {r : PV} {xs : List Value} {y : Value} (hc : callable P f) (hps : ps = xs.map .v) (hr : ∀ w F L, Rep w F L r y)
  (h : ∀ w, Globals P w → Calls P f xs.toArray w fun e w' => e = .returned y ∧ Grown w w') : Ctr P f ps [] r [] [] := by
 refine ⟨hc, fun fr w vals h0 hG hM hv => ?_⟩
 subst hps
 have hvals : ∀ (xs vals : List Value), RepL w (fr.F fr.L0) fr.L0 (xs.map .v) vals → vals = xs := by
  intro xs
  induction xs with
  | nil => intro vals h; cases h; rfl
  | cons x r ih => intro vals h; cases h with | cons h1 h2 => rw [h1.inv_v, ih _ h2]
 rw [hvals xs vals hv]
 refine (h w (fun x hx => hM.frame.glob x (hG ▸ hx))).mono ?_
 rintro e w' ⟨rfl, hg⟩
 have hno : ∀ n l, fr.L0 n = some l → False := fun n l hn => by
  obtain ⟨ob, hob⟩ := hM.dom n l hn
  simp [named, St.obj, look] at hob
 refine ⟨y, fr.L0, rfl, rfl, ⟨fun n ob hn => ?_, fun n l hn => (hno n l hn).elim, fun n n' l l' b hn => (hno n l hn).elim, fun n l b hn => (hno n l hn).elim, fun n l p hn => (hno n l hn).elim, hM.parLt, hM.xLt, ?_, hM.lext⟩, hr _ _ _⟩
 ·simp [named, St.obj, look] at hn
 ·exact hM.frame.grow hM.parLt.1 hg.os hg.tape hg.output hg.size hg.old
end
end Go.Sym
namespace Go.Sym
open Go.RowKit
@[reducible] def wV (x : BitVec 32) : PV := .v (.int .u32 (x.toNat : Int))
theorem oslE {o off l l' n n' : Nat} (h1 : l = l') (h2 : n = n') : PV.osl o off l n = PV.osl o off l' n' := by rw [h1, h2]
theorem arrE {sz : Nat} {b : Bool} {es es' : List PV} (h : es = es') : SObj.arr sz b es = SObj.arr sz b es' := by rw [h]
def isInt (ob : Obj) : Prop := ∃ m cs e f, ob = .cells cs e f ∧ cs[0]? = some (.int .i64 m)
def rowIs (zs : List Value) (ob : Obj) : Prop := ∃ e f, ob = .cells zs.toArray e f
section
variable {T : Tbl} {S : St} {t : TypeId}
theorem wrap32 (n : Nat) : IntKind.wrap .u32 (n : Int) = ((BitVec.ofNat 32 n).toNat : Int) := by
 simp [IntKind.wrap, IntKind.bits, IntKind.signed]
theorem bit32 (op : BinOp) (x y : BitVec 32) : bitOp op .u32 (x.toNat : Int) (y.toNat : Int) = (((match op with | .and => x &&& y | .or => x ||| y | .xor => x ^^^ y | _ => x &&& ~~~y) : BitVec 32).toNat : Int) := by
 have hx : BitVec.ofInt (IntKind.bits .u32) (x.toNat : Int) = x := by simp [IntKind.bits]
 have hy : BitVec.ofInt (IntKind.bits .u32) (y.toNat : Int) = y := by simp [IntKind.bits]
 have hw : ∀ z : BitVec 32, IntKind.wrap .u32 (z.toNat : Int) = (z.toNat : Int) := fun z => by rw [wrap32]; simp
 cases op <;> simp only [bitOp, hx, hy] <;> exact hw _
theorem binW_add {a b : BitVec 32} : BinR T S t .add (wV a) (wV b) [] (wV (a + b)) := by
 have h : IntKind.wrap .u32 ((a.toNat : Int) + (b.toNat : Int)) = ((a + b).toNat : Int) := by
  rw [← Int.natCast_add, wrap32]; simp [BitVec.toNat_add]
 show BinR T S t .add _ _ [] (.v (.int .u32 ((a + b).toNat : Int)))
 rw [← h]; exact .addI
theorem binW_and {a b : BitVec 32} : BinR T S t .and (wV a) (wV b) [] (wV (a &&& b)) := by
 show BinR T S t .and _ _ [] (.v (.int .u32 ((a &&& b).toNat : Int)))
 rw [← bit32 .and]; exact .andI
theorem binW_or {a b : BitVec 32} : BinR T S t .or (wV a) (wV b) [] (wV (a ||| b)) := by
 show BinR T S t .or _ _ [] (.v (.int .u32 ((a ||| b).toNat : Int)))
 rw [← bit32 .or]; exact .orI
theorem binW_xor {a b : BitVec 32} : BinR T S t .xor (wV a) (wV b) [] (wV (a ^^^ b)) := by
 show BinR T S t .xor _ _ [] (.v (.int .u32 ((a ^^^ b).toNat : Int)))
 rw [← bit32 .xor]; exact .xorI
theorem shlN (a : BitVec 32) (n : Nat) : IntKind.wrap .u32 ((a.toNat : Int) * 2 ^ (min n 32)) = ((a <<< n).toNat : Int) := by
 have h : ((a.toNat : Int) * 2 ^ (min n 32)) = ((a.toNat * 2 ^ (min n 32) : Nat) : Int) := by simp
 rw [h, wrap32]
 congr 1
 by_cases hn : n ≤ 32
 ·rw [Nat.min_eq_left hn]; simp [BitVec.toNat_shiftLeft, Nat.shiftLeft_eq]
 ·rw [Nat.min_eq_right (by omega)]
  have h1 : a <<< n = 0#32 := by
   apply BitVec.eq_of_toNat_eq
   simp only [BitVec.toNat_shiftLeft, Nat.shiftLeft_eq, BitVec.toNat_ofNat]
   obtain ⟨m, rfl⟩ : ∃ m, n = 32 + m := ⟨n - 32, by omega⟩
   rw [Nat.pow_add, ← Nat.mul_assoc, Nat.mul_right_comm]
   simp
  rw [h1]; simp
theorem shrN (a : BitVec 32) (n : Nat) : Int.fdiv (a.toNat : Int) (2 ^ (min n 32)) = ((a >>> n).toNat : Int) := by
 have h : Int.fdiv (a.toNat : Int) (2 ^ (min n 32)) = ((a.toNat / 2 ^ (min n 32) : Nat) : Int) := by
  rw [Int.fdiv_eq_ediv_of_nonneg _ (by exact_mod_cast Nat.zero_le _)]; simp
 rw [h, BitVec.toNat_ushiftRight, Nat.shiftRight_eq_div_pow]
 congr 1
 by_cases hn : n ≤ 32
 ·rw [Nat.min_eq_left hn]
 ·rw [Nat.min_eq_right (by omega)]
  have := a.isLt
  rw [Nat.div_eq_of_lt this, Nat.div_eq_of_lt (Nat.lt_of_lt_of_le this (Nat.pow_le_pow_right (by omega) (by omega)))]
theorem binW_shlG {a : BitVec 32} {k' : IntKind} {b : Int} (hb : Side (0 ≤ b)) : BinR T S t .shl (wV a) (.v (.int k' b)) [] (wV (a <<< b.toNat)) := by
 show BinR T S t .shl _ _ [] (.v (.int .u32 ((a <<< b.toNat).toNat : Int)))
 rw [← shlN]; exact .shlI hb
theorem binW_shrG {a : BitVec 32} {k' : IntKind} {b : Int} (hb : Side (0 ≤ b)) : BinR T S t .shr (wV a) (.v (.int k' b)) [] (wV (a >>> b.toNat)) := by
 show BinR T S t .shr _ _ [] (.v (.int .u32 ((a >>> b.toNat).toNat : Int)))
 rw [← shrN]; exact .shrI hb
theorem binW_shl {a : BitVec 32} {k' : IntKind} {n : Nat} : BinR T S t .shl (wV a) (.v (.int k' (@OfNat.ofNat Int n instOfNat))) [] (wV (a <<< n)) := by
 have h := binW_shlG (T := T) (S := S) (t := t) (a := a) (k' := k') (b := (n : Int)) (Int.natCast_nonneg n)
 exact h
theorem binW_shr {a : BitVec 32} {k' : IntKind} {n : Nat} : BinR T S t .shr (wV a) (.v (.int k' (@OfNat.ofNat Int n instOfNat))) [] (wV (a >>> n)) := by
 have h := binW_shrG (T := T) (S := S) (t := t) (a := a) (k' := k') (b := (n : Int)) (Int.natCast_nonneg n)
 exact h
theorem binW_shrC {a : BitVec 32} {k' : IntKind} {n : Nat} : BinR T S t .shr (wV a) (.v (.int k' (n : Int))) [] (wV (a >>> n)) :=
 binW_shrG (T := T) (S := S) (t := t) (a := a) (k' := k') (b := (n : Int)) (Int.natCast_nonneg n)
theorem convW8 {d : TD} {b : UInt8} : ConvR S d (.int .u32) (.v (.int .u8 (b.toNat : Int))) [] (wV (BitVec.ofNat 32 b.toNat)) := by
 show ConvR S d (.int .u32) _ [] (.v (.int .u32 ((BitVec.ofNat 32 b.toNat).toNat : Int)))
 rw [← wrap32]; exact .int
theorem convW_u8 {d : TD} {x : BitVec 32} : ConvR S d (.int .u8) (wV x) [] (u8V (UInt8.ofNat x.toNat)) := by
 have h : IntKind.wrap .u8 (x.toNat : Int) = ((UInt8.ofNat x.toNat).toNat : Int) := by simp [IntKind.wrap, IntKind.bits, IntKind.signed]
 show ConvR S d (.int .u8) _ [] (.v (.int .u8 ((UInt8.ofNat x.toNat).toNat : Int)))
 rw [← h]; exact .int
end
end Go.Sym
namespace Go.Sym
open Go.RowKit
section
variable {P : Program} {T : Tbl} {fr : Fr} {S S' : St} {L : LMap} {a : Act} {w : World} {γ : Bool}
variable {dst : Option Tmp} {ty : Nat} {pos : String} {aft : Array Edge} {g : Option (Nat × Bool)}
inductive NilR (S : St) : PV → List Nat → Prop
 | ref {o k : Nat} {cs : List PV} : S.obj o = some (.box cs) → NilR S (.ref o k) [o]
 | eref {o i k n sz : Nat} {isnil : Bool} {es : List PV} : S.obj o = some (.arr sz isnil es) → Side (n = es.length) → NilR S (.eref o i k n) [o]
 | rp {cs : List PV} : NilR S (.rp cs) []
 | v {ad : Addr} : NilR S (.v (.pointer (some ad))) []
theorem F_nilCheck [Globs P] (hγ : γ = true) {x : Operand} {p : PV} {rn : List Nat} (hx : OpdO γ S x p) (h : NilR S p rn) : FStep P ⟨dst, .nilCheck x, ty, pos, aft, g⟩ S rn ⟨p, []⟩ := by
 refine FStep.val fun fr S' L a w ht hn hR => ?_
 have h1 := hx.rep hγ hR (ht x (by simp [Op.operands]))
 have key : ∀ ad, a.eval x = .pointer (some ad) → ∃ y, (execOp a.eval ⟨dst, .nilCheck x, ty, pos, aft, g⟩).run P w = .ok (.value y) w ∧ Rep w (fr.F L) L p y := fun ad had => by
  refine ⟨_, ?_, h1⟩
  simp [execOp, had]
 cases h with
 | ref ho =>
  obtain ⟨b, off, hl', _⟩ := hR.box ((hn _ (by simp)).trans ho)
  exact key _ (h1.ref_at hl')
 | eref ho hs =>
  obtain ⟨base, cap, hl', _, _, hsz, hcells⟩ := hR.arr ((hn _ (by simp)).trans ho)
  obtain ⟨b, off, _, _, hv⟩ := h1.eref_at hl' hs
  exact key _ hv
 | rp =>
  generalize hv : a.eval x = v at h1
  cases h1 with
  | rp _ => exact key _ hv
 | v => exact key _ h1.inv_v
theorem F_buildArr [Globs P] (hT : TOk P T) (hγ : γ = true) {t e m sz : Nat} {parts : Array (Nat × Operand)} {ps es : List PV} {ti ei : TI} {zs : List Value} (hx : OpdsO γ S (parts.toList.map (·.2)) ps)
  (hl : look T t = some ti) (hd : ti.d = .array m e) (hle : look T e = some ei) (hsz : ei.size = sz) (hz0 : Nat.beq sz 0 = false) (hz : ti.zero = some zs) (h : FillP ((List.range m).map fun i => (i * sz, sz, e)) (parts.toList.map (·.1)) ps (zs.map .v) es) :
  FStep P ⟨dst, .build t parts, ty, pos, aft, g⟩ S [] ⟨.agg es, []⟩ := by
 refine FStep.val fun fr S' L a w ht hn hR => ?_
 have h1 := hx.rep hγ hR (fun x hm t e => ht x (by
  simp only [Op.operands]
  exact Array.mem_toList_iff.1 (by simpa using hm)) t e)
 have hu := und_array hT hl hd
 obtain ⟨z, hzr, hzc, _⟩ := zero_of hT hl hz w
 have hso : (sizeOf e).run P w = .ok sz w := by rw [size_of hT hle, hsz]
 have hs0 : sz ≠ 0 := fun e => by subst e; simp at hz0
 obtain ⟨out, k1, k2⟩ := fill_sound (pl := fun i => some (i * sz, sz)) (fun i off s ft hi _ => by
  rw [List.getElem?_map] at hi
  cases hg : (List.range m)[i]? with
  | none => rw [hg] at hi; simp at hi
  | some j =>
   rw [hg] at hi
   simp only [Option.map_some, Option.some.injEq, Prod.mk.injEq] at hi
   obtain ⟨g1, g2, _⟩ := hi
   have hji : j = i := by
    have := List.getElem?_eq_some_iff.1 hg
    obtain ⟨q1, q2⟩ := this
    simpa using q2.symm
   subst hji; rw [g1, g2]) (fun x hx' => by
  obtain ⟨j, _, rfl⟩ := List.mem_map.1 hx'
  exact hs0) (cells := zs.toArray) h h1 (by simpa using repL_map_v w (fr.F L) L zs)
 refine ⟨.agg out, ?_, by simpa using Rep.agg k2⟩
 have hpl : (parts.map fun x => (x.1, a.eval x.2)).toList = (parts.toList.map (·.1)).zip ((parts.toList.map (·.2)).map a.eval) := by
  rw [Array.toList_map, List.map_map, List.zip_map']
  rfl
 simp only [execOp, Instr.build, Sem.run_bind, hzr, Result.andThen_ok, run_underlying hu, hso, hzc, hpl, k1]
 simp
theorem unW_not {a : BitVec 32} : UnR .xor (wV a) (wV (~~~a)) := by
 have h : bitOp .xor .u32 (if IntKind.signed .u32 then -1 else IntKind.max .u32) (a.toNat : Int) = ((~~~a).toNat : Int) := by
  have e : (if IntKind.signed .u32 then -1 else IntKind.max .u32) = ((BitVec.allOnes 32).toNat : Int) := by decide
  rw [e, bit32]
  exact congrArg (fun z : BitVec 32 => (z.toNat : Int)) ((BitVec.xor_comm _ _).trans BitVec.xor_allOnes)
 show UnR .xor _ (.v (.int .u32 ((~~~a).toNat : Int)))
 rw [← h]; exact .xor
theorem SpliceR.zero : ∀ {vs cs : List PV}, vs.length ≤ cs.length → SpliceR 0 vs cs (vs ++ cs.drop vs.length)
 | [], cs, _ => by simpa using SpliceR.done
 | v :: vs, [], h => by simp at h
 | v :: vs, c :: cs, h => by simpa using SpliceR.here (SpliceR.zero (vs := vs) (cs := cs) (by simpa using h))
theorem SpliceR.mk : ∀ {k : Nat} {vs cs : List PV}, k + vs.length ≤ cs.length → SpliceR k vs cs (cs.take k ++ vs ++ cs.drop (k + vs.length))
 | 0, vs, cs, h => by simpa using SpliceR.zero (vs := vs) (cs := cs) (by simpa using h)
 | k + 1, vs, [], h => by simp at h
 | k + 1, vs, c :: cs, h => by
  have := SpliceR.skip (c := c) (SpliceR.mk (k := k) (vs := vs) (cs := cs) (by simp at h; omega))
  rw [show k + 1 + vs.length = k + vs.length + 1 by omega]
  simpa using this
end
end Go.Sym
namespace Go.Sym
open Go.RowKit
section
variable {P : Program} {T : Tbl} {fr : Fr} {S S' : St} {L : LMap} {a : Act} {w : World} {γ : Bool}
variable {dst : Option Tmp} {ty : Nat} {pos : String} {aft : Array Edge} {g : Option (Nat × Bool)}
theorem convL_plain {S : St} {σ : List (Nat × Nat)} {B : List Nat} {ps : List PV} (h : plainL ps = true) : ConvL S σ B ps ps := conv_plain_all.2 ps h
theorem TakeR.mk : ∀ {n : Nat} {cs : List PV}, n ≤ cs.length → TakeR n cs (cs.take n)
 | 0, cs, _ => by simpa using TakeR.zero
 | n + 1, [], h => by simp at h
 | n + 1, c :: cs, h => by simpa using TakeR.succ (c := c) (TakeR.mk (n := n) (cs := cs) (by simpa using h))
theorem DropR.mk : ∀ {n : Nat} {cs : List PV}, n ≤ cs.length → DropR n cs (cs.drop n)
 | 0, cs, _ => by simpa using DropR.zero
 | n + 1, [], h => by simp at h
 | n + 1, c :: cs, h => by simpa using DropR.succ (c := c) (DropR.mk (n := n) (cs := cs) (by simpa using h))
theorem Ret0 {rv : List ResultVar} {cs objs' : List SObj} (h : ResV T S rv []) (ho : Objs S (seqN PN objs'.length) cs) (hc : SConvs S (retσ objs'.length []) [] cs objs') : Returns T S rv (.tup []) objs' [] :=
 ⟨[], .tup [], [], [], cs, [], h, .none, ho, .nil, rfl, rfl, rfl, hc, .nil, .tup .nil⟩
theorem Ret1o {rv : List ResultVar} {cs objs' : List SObj} {p r : PV} (h : ResV T S rv [p]) (ho : Objs S (seqN PN objs'.length) cs) (hc : SConvs S (retσ objs'.length []) [] cs objs') (hr : ConvP S (retσ objs'.length []) [] p r) : Returns T S rv r objs' [] :=
 ⟨[p], p, [], [], cs, [], h, .one, ho, .nil, rfl, rfl, rfl, hc, .nil, hr⟩
theorem F_indexArr [Globs P] (hT : TOk P T) (hγ : γ = true) {t e m sz : Nat} {x y : Operand} {cs : List PV} {q : PV} {ti ei : TI} {ag : Option Nat} {k : IntKind} {i : Int} (hx : OpdO γ S x (.agg cs)) (hy : OpdO γ S y (.v (.int k i)))
  (hl : look T t = some ti) (hd : ti.d = .array m e) (hle : look T e = some ei) (hsz : ei.size = sz) (hag : ei.agg = ag) (hb : Side (0 ≤ i ∧ i < m)) (h : PartR cs (i.toNat * sz) ag q) : FStep P ⟨dst, .index t x y, ty, pos, aft, g⟩ S [] ⟨q, []⟩ := by
 subst hag
 refine FStep.val fun fr S' L a w ht hn hR => ?_
 have h1 := hx.rep hγ hR (ht x (by simp [Op.operands]))
 have hi := (hy.rep hγ hR (ht y (by simp [Op.operands]))).inv_v
 have hu := und_array hT hl hd
 have hso : (sizeOf e).run P w = .ok sz w := by rw [size_of hT hle, hsz]
 have hb' : 0 ≤ i ∧ i < (m : Int) := hb
 obtain ⟨d, hud, had, hsa⟩ := agg_spec hT hle
 generalize hev : a.eval x = v at h1
 cases h1 with
 | @agg _ cs' vs hrep =>
  have key : ∀ v', (part e vs.toArray (i.toNat * sz)).run P w = .ok v' w → (execOp a.eval ⟨dst, .index t x y, ty, pos, aft, g⟩).run P w = .ok (.value v') w := fun v' hv' => by
   simp only [execOp, Instr.index, Sem.run_bind, hi, asIntOf, Sem.run_pure, Result.andThen_ok, run_underlying hu, hev, if_pos hb', hso, hv']
  generalize hag : ei.agg = ag at h
  cases h with
  | one hc =>
   rw [nth_eq] at hc
   obtain ⟨y', k1, k2⟩ := repL_get hrep _ _ hc
   refine ⟨y', key _ ?_, k2⟩
   rw [hag] at had
   have k1' : vs.toArray[i.toNat * sz]? = some y' := by simpa using k1
   simp only [part, Sem.run_bind, isAgg_none hud had, Result.andThen_ok]
   simp [k1']
  | agg hdr htr =>
   rename_i mm ds es
   obtain ⟨e1, e2, e3⟩ := htr.eq
   obtain ⟨d1, d2⟩ := hdr.eq
   rw [hag] at had
   have hm := hsa _ hag
   refine ⟨.agg ((vs.drop (i.toNat * sz)).take mm).toArray, key _ ?_, .agg ?_⟩
   ·simp [part, isAgg_some hud had, hso, ← hsz, hm]
   ·refine repL_of_get ?_ (fun j c hc => ?_)
    ·rw [e3, List.length_take, List.length_drop, ← repL_length hrep]
     rw [d1, List.length_drop] at e2; omega
    ·rw [e1, List.getElem?_take] at hc
     split at hc
     ·rename_i hjm
      rw [d1, List.getElem?_drop] at hc
      obtain ⟨y, g1, g2⟩ := repL_get hrep _ _ hc
      exact ⟨y, by rw [List.getElem?_take, if_pos hjm, List.getElem?_drop]; exact g1, g2⟩
     ·simp at hc
end
end Go.Sym
namespace Go.Sym
theorem usesOnlyL_plain {ns : List Nat} {ps : List PV} (h : plainL ps = true) : usesOnlyL ns ps = true := plain_uses_all.2 ps h
end Go.Sym
