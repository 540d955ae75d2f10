/- A part of the proof: SymU. -/
import Derived.Lib.Overlaps
import Derived.Laws.Externs
import Derived.Test.YtbnnmnbidkpmcaaGreatDoorPart14
set_option linter.unusedVariables false
set_option linter.unusedSimpArgs false
namespace Go.Sym
open Go.RowKit
section
variable {P : Program} {T : Tbl} {fr : Fr} {S S' : St} {L : LMap} {a : Act} {w : World} {γ : Bool}
variable {ty : Nat} {pos : String} {aft : Array Edge} {g : Option (Nat × Bool)} {dst : Option Nat}
theorem run_append_zeros {t t2 ty e n m cap : Nat} {k2 : IntKind} {k3 : IntKind} {i : TypeInfo} {z : Value} (ht : P.underlying t = some (.slice e)) (ht2 : P.underlying t2 = some (.int k2)) (hi : P.info? e = some i) (hz : i.zero = some z) (hzs : z.cells.size = i.size) {old : List Value} {base : Option Addr}
  (hold : (Builtin.firstCells i.size n (.slice base n cap)).run P w.drew = .ok old.toArray w.drew) (hroom : ¬ (n + m ≤ cap))
  (h63 : n + m ≤ 9223372036854775807) (hb : (n + m) * i.bytes ≤ 140737488355328) :
  (Builtin.append_ #[t, t2] ty #[.slice base n cap, .int k3 (m : Int)]).run P w = .ok (.slice (some ⟨w.heap.size, 0, none⟩) (n + m) (grownCap w (n + m) cap e))
   (w.drew.alloc (.cells (old.toArray ++ Builtin.zeroCells z.cells m ++ Builtin.zeroCells z.cells (grownCap w (n + m) cap e - (n + m))) e)) := by
 have h63' : ¬ ((9223372036854775807 : Int) < (n : Int) + (m : Int)) := by omega
 have h48' : ¬ (281474976710656 < Builtin.nextslicecap (n + m) cap * i.bytes) := Nat.not_lt.2 (growslice_fits (by omega) hb)
 have hw : IntKind.i64.wrap (m : Int) = m := IntWalk.i64_in _ (by omega)
 have hmb : m * i.bytes ≤ (n + m) * i.bytes := Nat.mul_le_mul_right _ (by omega)
 have h2 : ¬ ((281474976710656 : Int) < (m : Int) * (i.bytes : Int)) := by
  have : ((m * i.bytes : Nat) : Int) = (m : Int) * (i.bytes : Int) := by simp
  rw [← this]; omega
 have h0 : ¬ ((m : Int) < 0) := by omega
 have hz0 : (if m * i.size = 0 then (#[] : Array Value) else Builtin.zeroCells z.cells m) = Builtin.zeroCells z.cells m := by
  split
  ·rename_i h; apply Array.eq_empty_of_size_eq_zero .. |>.symm; simp [Builtin.zeroCells, hzs, h]
  ·rfl
 by_cases hms : m * i.size = 0
 ·rw [if_pos hms] at hz0
  simp [Builtin.append_, run_underlying ht, run_underlying ht2, sizeOf, typeInfo, zeroValue, hi, hz, hw, h0, h2, hroom, h63', h48', Question.forced, hold, newRow, grownCap, asInt, asIntOf, ← hz0]
 ·simp [Builtin.append_, run_underlying ht, run_underlying ht2, sizeOf, typeInfo, zeroValue, hi, hz, hw, h0, h2, hroom, h63', h48', Question.forced, hold, newRow, grownCap, asInt, asIntOf]
  exact fun h => absurd h hms
theorem F_appendOver [Globs P] (hT : TOk P T) (hγ : γ = true) {k t t2 e m : Nat} {k2 k3 : IntKind} {x y : Operand} {o len n sz by_ c : Nat} {isnil : Bool} {es : List PV} {ti ti2 ei : TI} {zs : List Value} (hx : OpdO γ S x (.osl o 0 len n)) (hy : OpdO γ S y (.v (.int k3 (m : Int))))
  (hl : look T t = some ti) (hd : ti.d = .slice e) (hle : look T e = some ei) (hsz : ei.size = sz) (hby : ei.bytes = by_) (hz : ei.zero = some zs) (hzs : Nat.beq zs.length sz = true) (hl2 : look T t2 = some ti2) (hd2 : ti2.d = .int k2)
  (ho : S.obj o = some (.arrc sz isnil es c)) (hk : S.obj k = none) (hs : Side (n = es.length)) (hover : Side (c < len + m)) (hbytes : Side ((len + m) * by_ ≤ 140737488355328)) (h63 : Side (len + m ≤ 9223372036854775807)) :
  FStep P ⟨some k, .call { callee := .builtin .append, args := #[x, y], argTypes := #[t, t2] }, ty, pos, aft, g⟩ S [o, k] ⟨.osl k 0 (len + m) (len + m), [(k, .arr sz false (es.take len ++ List.replicate m (deadE sz)))]⟩ := by
 intro fr S' ht hn L a w hR hG Q
 obtain ⟨d2, hu2, hd2'⟩ := und_any hT hl2
 have hd3 : d2 = .int k2 := by
  rw [hd2] at hd2'
  cases d2 <;> simp [TD.of] at hd2'
  subst hd2'; rfl
 subst hd3
 subst hsz
 subst hby
 have hp := hx.rep hγ hR (fun t e => ht t (mem_tmps (x := x) (by simp [Op.operands, Call.operands]) t e))
 have hq := (hy.rep hγ hR (fun t e => ht t (mem_tmps (x := y) (by simp [Op.operands, Call.operands]) t e))).inv_v
 have ho' := (hn o (by simp)).trans ho
 have hk' := (hn k (by simp)).trans hk
 obtain ⟨base, hl', hcap, hnil, hes, hcells⟩ := hR.arrc ho'
 obtain ⟨s1, s2⟩ := hp.osl_at hl' hs
 have hs' : n = es.length := hs
 have hov' : c < len + m := hover
 have hu := und_slice hT hl hd
 obtain ⟨z, hzr, hzc, info, hi, hiz, his, hib⟩ := zero_of hT hle hz w
 have hzlen : zs.length = ei.size := Nat.eq_of_beq_eq_true hzs
 have hzsz : z.cells.size = info.size := by rw [hzc, his]; simpa using hzlen
 have hes2 : ∀ e ∈ es.take len, e.cells.length = ei.size := fun e he => hes e (List.mem_of_mem_take he)
 have hb' : (len + m) * info.bytes ≤ 140737488355328 := by rw [hib]; exact hbytes
 have h63' : len + m ≤ 9223372036854775807 := h63
 have hge := grownCap_ge w (len + m)
 obtain ⟨old, cp, hv, hcl, hold, hrold⟩ : ∃ (old : List Value) (bs : Option Addr × Nat), a.eval x = .slice bs.1 len bs.2 ∧ bs.2 ≤ c ∧ (Builtin.firstCells info.size len (.slice bs.1 len bs.2)).run P w.drew = .ok old.toArray w.drew ∧ RepL w (fr.F L) L (cellsOf (es.take len)) old := by
  cases base with
  | none =>
   simp only at hcells
   have hc0 : c = 0 := hcells
   have h0 : len = 0 := by omega
   subst h0
   exact ⟨[], (none, 0), s2, by omega, by simp [Builtin.firstCells], by simp; exact .nil _⟩
  | some bo =>
   obtain ⟨b, off⟩ := bo
   obtain ⟨ad, c', hv, hlc, hpos, hq0, hcc⟩ := s2
   obtain rfl := hq0 rfl
   rw [Nat.sub_zero] at hcc
   subst hcc
   obtain ⟨vs, g1, g2, g3⟩ := cells_list (w := w) (F := fr.F L) (L := L) (b := b) (ds := cellsOf (es.take len)) (o := ad) (fun j p hj => by
    rw [cellsOf_take hes, List.getElem?_take] at hj
    split at hj
    ·obtain ⟨y, m1, _, m2⟩ := hcells.1 j p hj
     exact ⟨y, m1, m2⟩
    ·simp at hj)
   have hvl : vs.length = len * info.size := by rw [g1, cellsOf_length hes2, his, List.length_take, Nat.min_eq_left (by omega)]
   exact ⟨vs, (some ⟨b, ad, none⟩, c'), hv, Nat.le_refl _, run_firstCells_list (w := w.drew) hvl g3 _, g2⟩
 have hol : old.length = len * ei.size := by rw [← repL_length hrold, cellsOf_length hes2, List.length_take, Nat.min_eq_left (by omega)]
 have hr := run_append_zeros (P := P) (w := w) (t := t) (t2 := t2) (ty := ty) (e := e) (n := len) (m := m) (cap := cp.2) (k2 := k2) (k3 := k3) (base := cp.1) (old := old) hu hu2 hi hiz hzsz hold (by omega) h63' hb'
 have key : (execOp a.eval ⟨some k, .call { callee := .builtin .append, args := #[x, y], argTypes := #[t, t2] }, ty, pos, aft, g⟩).run P w = .ok (.value (.slice (some ⟨w.heap.size, 0, none⟩) (len + m) (grownCap w (len + m) cp.2 e))) (w.drew.alloc (.cells (old.toArray ++ Builtin.zeroCells z.cells m ++ Builtin.zeroCells z.cells (grownCap w (len + m) cp.2 e - (len + m))) e)) := by
  simp only [execOp, resolve, Sem.run_bind, Sem.run_pure, Result.andThen_ok, invoke, builtin]
  simp [hv, hq, hr]
 have hge := grownCap_ge w (len + m) cp.2 e
 have hdl : ∀ e ∈ List.replicate m (deadE ei.size), e.cells.length = ei.size := fun e he => by rw [List.eq_of_mem_replicate he]; simp [deadE, PV.cells]
 have hll : (es.take len ++ List.replicate m (deadE ei.size)).length = len + m := by simp; omega
 have hzm : (Builtin.zeroCells z.cells m).toList.length = m * ei.size := by rw [Array.length_toList, size_zeroCells', hzsz, his]
 obtain ⟨L', h1, h2⟩ := R.moveArr (hR.drew) (o := k) (sz := ei.size) (cap := grownCap w (len + m) cp.2 e) (es := es.take len ++ List.replicate m (deadE ei.size)) (vs := old ++ (Builtin.zeroCells z.cells m).toList ++ (Builtin.zeroCells z.cells (grownCap w (len + m) cp.2 e - (len + m))).toList) (fun l0 h => (hR.noL hk' l0 h).elim)
  (fun e he => (List.mem_append.1 he).elim (hes2 e) (hdl e))
  (by
   rw [hll, List.take_left' (by rw [List.length_append, hol, hzm, Nat.add_mul]), cellsOf_append]
   have hext : Ext w (fr.F L) w.drew (fr.F L) := fun b s hx hn => ⟨sees_drew hx, hn⟩
   exact repL_append (hrold.mono hext (LExt.refl L)) (repL_dead _ _ (by rw [cellsOf_length hdl, hzm]; simp) (fun p hp => by
    simp only [cellsOf, List.mem_flatMap] at hp
    obtain ⟨e, he, hpe⟩ := hp
    rw [List.eq_of_mem_replicate he] at hpe
    exact List.eq_of_mem_replicate hpe)))
  (by
   simp only [List.length_append, Array.length_toList, size_zeroCells', hzsz, his, hol, ← Nat.add_mul]
   congr 1; omega)
  (by rw [hll]; exact hge) e
 unfold Oper.wp
 rw [key, Oper.upon_value]
 have harr : (old ++ (Builtin.zeroCells z.cells m).toList ++ (Builtin.zeroCells z.cells (grownCap w (len + m) cp.2 e - (len + m))).toList).toArray = old.toArray ++ Builtin.zeroCells z.cells m ++ Builtin.zeroCells z.cells (grownCap w (len + m) cp.2 e - (len + m)) := by
  apply Array.ext'; simp
 rw [harr] at h1
 refine ⟨_, L', rfl, h1, ?_⟩
 rw [hll] at h2
 exact oslFull h2 hge
theorem F_appendOver' [Globs P] (hT : TOk P T) (hγ : γ = true) {k t t2 e : Nat} {j : Int} {k2 k3 : IntKind} {x y : Operand} {o len n sz by_ c : Nat} {isnil : Bool} {es : List PV} {ti ti2 ei : TI} {zs : List Value} (hx : OpdO γ S x (.osl o 0 len n)) (hy : OpdO γ S y (.v (.int k3 j)))
  (hl : look T t = some ti) (hd : ti.d = .slice e) (hle : look T e = some ei) (hsz : ei.size = sz) (hby : ei.bytes = by_) (hz : ei.zero = some zs) (hzs : Nat.beq zs.length sz = true) (hl2 : look T t2 = some ti2) (hd2 : ti2.d = .int k2)
  (ho : S.obj o = some (.arrc sz isnil es c)) (hk : S.obj k = none) (hs : Side (n = es.length)) (hj : Side (0 ≤ j)) (hover : Side (c < len + j.toNat)) (hbytes : Side ((len + j.toNat) * by_ ≤ 140737488355328)) (h63 : Side (len + j.toNat ≤ 9223372036854775807)) :
  FStep P ⟨some k, .call { callee := .builtin .append, args := #[x, y], argTypes := #[t, t2] }, ty, pos, aft, g⟩ S [o, k] ⟨.osl k 0 (len + j.toNat) (len + j.toNat), [(k, .arr sz false (es.take len ++ List.replicate j.toNat (deadE sz)))]⟩ := by
 have hj' : 0 ≤ j := hj
 have e : j = ((j.toNat : Nat) : Int) := by omega
 rw [e] at hy
 exact F_appendOver hT hγ hx hy hl hd hle hsz hby hz hzs hl2 hd2 ho hk hs hover hbytes h63
theorem run_overlaps_own (w : World) (tS tR e : TypeId) (ht : P.underlying tS = some (.slice e)) (size : Nat) (hz : ∀ w, (Go.sizeOf e).run P w = .ok size w)
  (a b : Addr) (la ca lb cb : Nat) (hne : a.block ≠ b.block) (tA tB : TypeId) (kA kB : Nat)
  (hsa : w.shape? a.block = some (tA, kA)) (hsb : w.shape? b.block = some (tB, kB)) (hkA : kA ≠ 0)
  (hfb : w.frozen? b = false) (hfe : w.frozen? { block := b.block, off := kB } = false) :
  (Extern.SlicesOverlaps.overlaps #[tS, tS] #[tR] #[.slice (some a) la ca, .slice (some b) lb cb]).run P w = .ok (.bool false) w := by
 have hnb : (a.block != b.block) = true := by simpa using hne
 have hnb' : (a.block == b.block) = false := by simpa using hne
 change Sem.run P (α := Value) (do
  let some t := (#[tS, tS] : Array TypeId)[0]? | stuck "slices.overlaps: no parameter types"
  let .slice elem ← underlying t | stuck "slices.overlaps: slice type expected"
  let size ← sizeOf elem
  match (some a : Option Addr), (some b : Option Addr) with
  | some a, some b =>
   if la = 0 ∨ lb = 0 ∨ size = 0 then pure (Value.bool false)
   else if a.block != b.block && (← frozen a) && (← frozen b) then unsupported .addressObserved
   else do
    if a.block != b.block then do
     noView a; noView b
     if ← mayBeOne a b then return Value.bool ((← choose (.extern "sameAddr.stringBytes" 2)) == 1)
    pure (Value.bool (a.block == b.block && a.off < b.off + lb * size && b.off < a.off + la * size))
  | _, _ => pure (Value.bool false)) w = _
 by_cases h0 : la = 0 ∨ lb = 0 ∨ size = 0
 ·simp [run_underlying ht, hz, h0]
 ·cases kA with
  | zero => exact absurd rfl hkA
  | succ kA =>
   cases h1 : w.frozen? a <;> cases h2 : w.frozen? { block := a.block, off := kA + 1 } <;> simp [run_underlying ht, hz, h0, hnb, hnb', frozen, noView, viewAt, mayBeOne, stringish, shape, Sem.run, hsa, hsb, hfb, hfe, h1, h2]
theorem run_overlaps_nil (w : World) (tS tR e : TypeId) (ht : P.underlying tS = some (.slice e)) (size : Nat) (hz : ∀ w, (Go.sizeOf e).run P w = .ok size w) (a : Option Addr) (la ca lb cb : Nat) :
  (Extern.SlicesOverlaps.overlaps #[tS, tS] #[tR] #[.slice a la ca, .slice none lb cb]).run P w = .ok (.bool false) w := by
 change Sem.run P (α := Value) (do
  let some t := (#[tS, tS] : Array TypeId)[0]? | stuck "slices.overlaps: no parameter types"
  let .slice elem ← underlying t | stuck "slices.overlaps: slice type expected"
  let size ← sizeOf elem
  match a, (none : Option Addr) with
  | some a, some b =>
   if la = 0 ∨ lb = 0 ∨ size = 0 then pure (Value.bool false)
   else if a.block != b.block && (← frozen a) && (← frozen b) then unsupported .addressObserved
   else do
    if a.block != b.block then do
     noView a; noView b
     if ← mayBeOne a b then return Value.bool ((← choose (.extern "sameAddr.stringBytes" 2)) == 1)
    pure (Value.bool (a.block == b.block && a.off < b.off + lb * size && b.off < a.off + la * size))
  | _, _ => pure (Value.bool false)) w = _
 cases a <;> simp [run_underlying ht, hz]
theorem shape_of_cell {b off : Nat} {x : Value} (h : w.cell? ⟨b, off, none⟩ = some x) : ∃ t k, w.shape? b = some (t, k) ∧ k ≠ 0 := by
 cases hh : w.heap[b]? with
 | none => simp [World.cell?, hh] at h
 | some ob =>
  cases ob with
  | cells c e f =>
   simp only [World.cell?, hh] at h
   refine ⟨e, c.size, by simp [World.shape?, hh], fun h0 => ?_⟩
   have := (Array.getElem?_eq_some_iff.1 (by simpa using h : c[off]? = some x)).1
   omega
  | _ => simp [World.cell?, hh] at h
theorem F_overlaps [Globs P] (hT : TOk P T) (hγ : γ = true) {f t tR e : Nat} {fn : Func} {x y z : Operand} {ats : Array TypeId} {o off len n sz sz' : Nat} {isnil nl : Bool} {es xs : List PV} {ti ei : TI} (hx : OpdO γ S x (.clo (.func f) [] [])) (hy : OpdO γ S y (.sl nl sz' xs)) (hz : OpdO γ S z (.osl o off len n)) (hxs : Nat.beq sz' 0 = false) (hne : Side (xs ≠ []))
  (hf : P.funcs[f]? = some fn) (hname : (fn.name == "runtime.NumGoroutine") = false) (hb : fn.body.isNone = true) (hn : Extern.findNext fn = none) (he : Extern.find fn = some (Extern.SlicesOverlaps.overlaps #[t, t] #[tR])) (hl : look T t = some ti) (hd : ti.d = .slice e) (hle : look T e = some ei) (hsz : Nat.beq ei.size 0 = false)
  (ho : S.obj o = some (.arr sz isnil es)) (hs : Side (n = es.length)) (hone : Nat.beq sz 1 = false) :
  FStep P ⟨dst, .call { callee := .value x, args := #[y, z], argTypes := ats }, ty, pos, aft, g⟩ S [o] ⟨bV false, []⟩ := by
 refine FStep.val fun fr S' L a w ht hn' hR => ?_
 have h1 := hx.rep hγ hR (ht x (by simp [Op.operands, Call.operands]))
 have h2 := hy.rep hγ hR (ht y (by simp [Op.operands, Call.operands]))
 have h3 := hz.rep hγ hR (ht z (by simp [Op.operands, Call.operands]))
 obtain ⟨base, cap, hl', hcap, hnil, hes, hcells⟩ := hR.arr ((hn' _ (by simp)).trans ho)
 obtain ⟨s1, s2⟩ := h3.osl_at hl' hs
 have hne' : xs ≠ [] := hne
 generalize hv1 : a.eval x = v1 at h1
 generalize hv2 : a.eval y = v2 at h2
 cases h1 with
 | @clo _ _ _ _ fs cs hf1 hc1 =>
  cases hf1
  cases hc1
  have key : (Extern.SlicesOverlaps.overlaps #[t, t] #[tR] #[v2, a.eval z]).run P w = .ok (.bool false) w → (execOp a.eval ⟨dst, .call { callee := .value x, args := #[y, z], argTypes := ats }, ty, pos, aft, g⟩).run P w = .ok (.value (.bool false)) w := fun hr => by
   simp only [execOp, resolve, hv1, Deferred.ofValue, Sem.run_bind, Sem.run_pure, Result.andThen_ok, invoke]
   rw [run_callFunc_extern hf hname hb hn he]
   simp [hv2, hr, Result.andThen]
  refine ⟨_, key ?_, .v _ _⟩
  cases h2 with
  | slNil => exact absurd rfl hne'
  | slE => exact absurd rfl hne'
  | sl k1 k2 k3 =>
   rename_i b2 off2 n2 cap2
   cases base with
   | none =>
    rw [s2]
    exact run_overlaps_nil w t tR e (und_slice hT hl hd) ei.size (elemSize hT hle) _ _ _ _ _
   | some bo =>
    obtain ⟨b, off0⟩ := bo
    obtain ⟨ad, c, hv, hlc, hpos, hq0, hcc⟩ := s2
    rw [hv]
    obtain ⟨e0, es0, rfl⟩ := List.exists_cons_of_ne_nil hne'
    cases k3 with
    | cons g1 g2 g3 =>
     have hc0 : ∃ c0 cs0, e0.cells = c0 :: cs0 := by
      cases hcs : e0.cells with
      | nil => rw [hcs] at g1; simp at g1; subst g1; simp at hxs
      | cons c0 cs0 => exact ⟨_, _, rfl⟩
     obtain ⟨c0, cs0, hcs⟩ := hc0
     rw [hcs] at g2
     cases g2 with
     | cons m1 m2 m3 m4 =>
      obtain ⟨tA, kA, hsa, hkA⟩ := shape_of_cell m1
      obtain ⟨cc, ee, hkind⟩ := (hR.mem.kind o _ _ hl' rfl).plain hone
      have hsb : w.shape? b = some (ee, cc.size) := by simp [World.shape?, hkind]
      refine run_overlaps_own w t tR e (und_slice hT hl hd) ei.size (elemSize hT hle) ⟨b2, off2, none⟩ ⟨b, ad, none⟩ _ _ _ _ (fun h => m2 (.inr ⟨o, _, hl', ?_⟩)) tA ee kA cc.size hsa hsb hkA (by simp [World.frozen?, hkind]) (by simp [World.frozen?, hkind])
      have h' : b2 = b := h
      subst h'; rfl
theorem Weak.shift {nt : Nat} {S' : St} (o o' sz : Nat) {nl nl' : Bool} {es es' : List PV} {t' : List (Nat × PV)} (hoo : o ≠ o') (ho : S.obj o = some (.arr sz nl es) ∨ ∃ c, S.obj o = some (.arrc sz nl es c)) (ho' : S.obj o' = some (.arr sz nl' es')) (hlt : Side (es.length < es'.length)) (hp : plainL es' = true) (hpn : o' < PN)
  (hS : S.o.all (fun x => Nat.beq x.1 o || Nat.blt x.1 PN) = true) (ht : TurnT S [(o', o)] [] t') : Weak nt S ⟨t', [(o, .arr sz nl' es')]⟩ := by
 intro fr hnt L a w hR
 have hM := hR.mem
 obtain ⟨base', cap', hl', hcap', hnil', hes', hcells'⟩ := hR.arr ho'
 have hlo : ∃ base cap, L o = some (.arr base es.length cap sz) := by
  rcases ho with ho | ⟨c, ho⟩
  ·obtain ⟨base, cap, h1, _⟩ := hR.arr ho; exact ⟨base, cap, h1⟩
  ·obtain ⟨base, h1, _⟩ := hR.arrc ho; exact ⟨base, c, h1⟩
 obtain ⟨base, cap, hl⟩ := hlo
 have hlt' : es.length < es'.length := hlt
 let L' : LMap := fun n => if n = o then L o' else none
 have hLo : L' o = some (.arr base' es'.length cap' sz) := by simp [L', hl']
 have hL2 : ∀ n l, L' n = some l → n = o ∧ L o' = some l := fun n l h => by
  simp only [L'] at h
  split at h
  ·rename_i e; exact ⟨e, h⟩
  ·simp at h
 have hF : ∀ b, ¬ fr.F L b → ¬ fr.F L' b := fun b hn h => by
  rcases h with h | ⟨n, l, h1, h2⟩
  ·exact hn (.inl h)
  ·exact hn (.inr ⟨o', l, (hL2 n l h1).2, h2⟩)
 have hcv := conv_rep_all (L' := L') (F' := fr.F L') hM (σ := [(o', o)]) (B := []) hF (fun o h => by simp at h) (fun x y h l hx => by
  rw [look_cons] at h
  split at h
  ·rename_i e; subst e
   simp at h; subst h
   simp only [L', if_true]; exact hx
  ·simp [look] at h)
 refine ⟨L', ⟨fun n ob hn => ?_, fun n l hn => ?_, fun n n' l l' b hn hn' _ _ => (hL2 n l hn).1.trans (hL2 n' l' hn').1.symm, fun n l b hn hb => hM.place o' l b (hL2 n l hn).2 hb, fun n l b hn hb => hM.kind o' l b (hL2 n l hn).2 hb, hM.parLt, hM.xLt, hM.frame, fun n l h => ?_⟩, hR.nt, hR.defers, fun t p hp => ?_⟩
 ·have hn' : look [(o, SObj.arr sz nl' es')] n = some ob := hn
  rw [look_cons] at hn'
  split at hn'
  ·rename_i e; subst e
   simp at hn'; subst hn'
   refine ⟨_, hLo, rfl, rfl, hcap', hnil', hes', ?_⟩
   cases base' with
   | none => exact hcells'
   | some bo =>
    refine ⟨fun j c hj => ?_, hcells'.2⟩
    obtain ⟨x, k1, k2, k3⟩ := hcells'.1 j c hj
    obtain ⟨e, he, hce⟩ := List.mem_flatMap.1 (List.mem_of_getElem? hj)
    exact ⟨x, k1, k2, (k3.plain (plain_cells (plainL_mem hp e he) c hce) L').mono (fun b s hx hn => ⟨hx, hF b hn⟩) (LExt.refl _)⟩
  ·simp [look] at hn'
 ·obtain ⟨rfl, _⟩ := hL2 n l hn
  exact ⟨_, by show look [(n, SObj.arr sz nl' es')] n = _; rw [look_cons, if_pos rfl]⟩
 ·obtain ⟨l1, h1, h2⟩ := hM.lext n l h
  obtain ⟨ob, hob⟩ := hM.dom n l1 h1
  have hpn := hnt.2 n l h
  have := (List.all_eq_true.1 hS) _ (look_mem hob)
  simp only [Bool.or_eq_true, Nat.beq_eq, Nat.blt_eq] at this
  obtain rfl : n = o := by
   rcases this with e | e
   ·exact Nat.eq_of_beq_eq_true (by simpa using e)
   ·omega
  rw [hl] at h1
  cases h1
  refine ⟨_, hLo, fun off x hx => trivial, fun off len k x hk => ?_, fun i off k x hk => ?_⟩
  ·have := h2.2.1 off len k x hk
   exact ⟨by have := this.1; omega, fun h => by have := this.1; omega⟩
  ·have := h2.2.2 i off k x hk
   cases base with
   | none =>
    have hk' : k < es.length := this
    cases base' with
    | none => show k < _; omega
    | some p => exact ⟨by omega, fun h => by omega⟩
   | some p =>
    have hk' : k ≤ es.length := this.1
    cases base' with
    | none => show k < _; omega
    | some p => exact ⟨by omega, fun h => by omega⟩
 ·have hmem := look_mem hp
  obtain ⟨q, g1, g2⟩ := ht.get t p hmem
  obtain ⟨x, h1, h2⟩ := hR.vals t q g1
  exact ⟨x, h1, hcv.1 g2 x h2⟩
end
theorem bok {n : Nat} {a b : Int} (h : 0 ≤ a ∧ a ≤ b ∧ b ≤ n) : Side (boundsOk n (some a) (some b)) := ⟨fun i hi => by cases hi; omega, fun i hi => by cases hi; simp only [hiOf]; omega⟩
theorem bokL {n : Nat} {a : Int} (h : 0 ≤ a ∧ a ≤ n) : Side (boundsOk n (some a) none) := ⟨fun i hi => (by cases hi), fun i hi => by cases hi; simp only [hiOf]; omega⟩
theorem bokR {n : Nat} {b : Int} (h : 0 ≤ b ∧ b ≤ n) : Side (boundsOk n none (some b)) := ⟨fun i hi => by cases hi; omega, fun i hi => (by cases hi)⟩
theorem vI {k : IntKind} {a b : Int} (h : a = b) : PV.v (.int k a) = .v (.int k b) := by rw [h]
theorem vB {a b : Bool} (h : a = b) : bV a = bV b := by rw [h]
theorem putAt_app (a b c xs : List PV) (k : Nat) (hk : k = a.length) (h : xs.length = b.length) : putAt (a ++ (b ++ c)) k xs = a ++ (xs ++ c) := by
 subst hk
 simp only [putAt]
 rw [List.take_left' rfl, h, ← List.append_assoc a b c, List.drop_left' (by simp)]
theorem ins1 (es xs : List PV) (d : PV) (i : Nat) (hi : i < es.length) : putAt (es.take i ++ List.replicate (es.length + xs.length - i) d) (0 + (i : Int).toNat) (xs.take (min xs.length (es.length + xs.length - (i : Int).toNat))) = es.take i ++ (xs ++ List.replicate (es.length - i) d) := by
 have h1 : min xs.length (es.length + xs.length - (i : Int).toNat) = xs.length := by omega
 have h2 : (es.take i).length = i := by rw [List.length_take]; omega
 have h6 : List.replicate (es.length + xs.length - i) d = List.replicate xs.length d ++ List.replicate (es.length - i) d := by
  rw [List.replicate_append_replicate]; congr 1; omega
 rw [h1, List.take_length, h6]
 exact putAt_app _ _ _ _ _ (by omega) (by simp)
theorem ins2 (es xs : List PV) (d : PV) (i : Nat) (hi : i < es.length) : putAt (es.take i ++ (xs ++ List.replicate (es.length - i) d)) (0 + ((i : Int) + xs.length).toNat) (((es.drop (0 + (i : Int).toNat)).take (es.length - (i : Int).toNat)).take (min ((es.drop (0 + (i : Int).toNat)).take (es.length - (i : Int).toNat)).length (es.length + xs.length - ((i : Int) + xs.length).toNat))) = es.take i ++ (xs ++ es.drop i) := by
 have h2 : (es.take i).length = i := by rw [List.length_take]; omega
 have h5 : (es.drop i).length = es.length - i := List.length_drop
 have h3 : (es.drop (0 + (i : Int).toNat)).take (es.length - (i : Int).toNat) = es.drop i := by
  have : 0 + (i : Int).toNat = i := by omega
  rw [this]
  exact List.take_of_length_le (by omega)
 have h7 : min (es.drop i).length (es.length + xs.length - ((i : Int) + xs.length).toNat) = (es.drop i).length := by omega
 rw [h3, h7, List.take_length]
 have := putAt_app (es.take i ++ xs) (List.replicate (es.length - i) d) [] (es.drop i) (0 + ((i : Int) + xs.length).toNat) (by rw [List.length_append]; omega) (by rw [List.length_replicate]; omega)
 simp only [List.append_nil, List.append_assoc] at this
 exact this
theorem ins3 (es xs : List PV) (d : PV) (i : Nat) (hi : i < es.length) : putAt (es ++ List.replicate xs.length d) (0 + ((i : Int) + xs.length).toNat) ((((es ++ List.replicate xs.length d).drop (0 + (i : Int).toNat)).take (es.length + xs.length - (i : Int).toNat)).take (min (((es ++ List.replicate xs.length d).drop (0 + (i : Int).toNat)).take (es.length + xs.length - (i : Int).toNat)).length (es.length + xs.length - ((i : Int) + xs.length).toNat))) = (es ++ List.replicate xs.length d).take (i + xs.length) ++ es.drop i := by
 have h5 : (es.drop i).length = es.length - i := List.length_drop
 have h3 : ((es ++ List.replicate xs.length d).drop (0 + (i : Int).toNat)).take (es.length + xs.length - (i : Int).toNat) = es.drop i ++ List.replicate xs.length d := by
  have : 0 + (i : Int).toNat = i := by omega
  rw [this, List.drop_append_of_le_length (by omega)]
  exact List.take_of_length_le (by rw [List.length_append, List.length_replicate]; omega)
 have h4 : min (es.drop i ++ List.replicate xs.length d).length (es.length + xs.length - ((i : Int) + xs.length).toNat) = (es.drop i).length := by rw [List.length_append, List.length_replicate]; omega
 rw [h3, h4, List.take_left' rfl]
 have h6 : 0 + ((i : Int) + xs.length).toNat = i + xs.length := by omega
 rw [h6]
 simp only [putAt]
 rw [List.drop_eq_nil_of_le (as := es ++ List.replicate xs.length d) (by rw [List.length_append, List.length_replicate]; omega), List.append_nil]
theorem ins4 (es xs : List PV) (d : PV) (i : Nat) (hi : i < es.length) : putAt ((es ++ List.replicate xs.length d).take (i + xs.length) ++ es.drop i) (0 + (i : Int).toNat) (xs.take (min xs.length (es.length + xs.length - (i : Int).toNat))) = es.take i ++ (xs ++ es.drop i) := by
 have h1 : min xs.length (es.length + xs.length - (i : Int).toNat) = xs.length := by omega
 have h7 : (es ++ List.replicate xs.length d).take (i + xs.length) = es.take i ++ ((es ++ List.replicate xs.length d).drop i).take xs.length := by
  rw [List.take_add, List.take_append_of_le_length (by omega)]
 have h2 : (es.take i).length = i := by rw [List.length_take]; omega
 rw [h1, List.take_length, h7, List.append_assoc]
 exact putAt_app _ _ _ _ _ (by omega) (by rw [List.length_take, List.length_drop, List.length_append, List.length_replicate]; omega)
theorem ins3c (es xs : List PV) (d : PV) (i : Nat) (hi : i < es.length) : (((es ++ List.replicate xs.length d).drop (0 + (i : Int).toNat)).take (es.length + xs.length - (i : Int).toNat)).take (min (((es ++ List.replicate xs.length d).drop (0 + (i : Int).toNat)).take (es.length + xs.length - (i : Int).toNat)).length (es.length + xs.length - ((i : Int) + xs.length).toNat)) = es.drop i := by
 have h5 : (es.drop i).length = es.length - i := List.length_drop
 have h3 : ((es ++ List.replicate xs.length d).drop (0 + (i : Int).toNat)).take (es.length + xs.length - (i : Int).toNat) = es.drop i ++ List.replicate xs.length d := by
  have : 0 + (i : Int).toNat = i := by omega
  rw [this, List.drop_append_of_le_length (by omega)]
  exact List.take_of_length_le (by rw [List.length_append, List.length_replicate]; omega)
 have h4 : min (es.drop i ++ List.replicate xs.length d).length (es.length + xs.length - ((i : Int) + xs.length).toNat) = (es.drop i).length := by rw [List.length_append, List.length_replicate]; omega
 rw [h3, h4, List.take_left' rfl]
theorem okSub {es xs : List PV} (hc : cellsOkL (cellsOf es) = true) (h : ∀ e ∈ xs, e ∈ es) : cellsOkL (cellsOf xs) = true := by
 simp only [cellsOkL, List.all_eq_true, cellsOf, List.mem_flatMap] at hc ⊢
 rintro p ⟨e, he, hp⟩
 exact hc p ⟨e, h e he, hp⟩
theorem okT {es : List PV} (hc : cellsOkL (cellsOf es) = true) (n : Nat) : cellsOkL (cellsOf (es.take n)) = true := okSub hc fun _ h => List.mem_of_mem_take h
theorem okD {es : List PV} (hc : cellsOkL (cellsOf es) = true) (n : Nat) : cellsOkL (cellsOf (es.drop n)) = true := okSub hc fun _ h => List.mem_of_mem_drop h
theorem okDTT {es : List PV} (hc : cellsOkL (cellsOf es) = true) (k n m : Nat) : cellsOkL (cellsOf (((es.drop k).take n).take m)) = true := okT (okT (okD hc k) n) m
theorem Ret1 {T : Tbl} {S : St} {rv : List ResultVar} {p r : PV} (B : List Nat) (h : ResV T S rv [p]) (hB : B.all (fun o => Nat.blt o PN && !([] : List Nat).contains o) = true) (hc : ConvP S [] B p r) : Returns T S rv r [] [] :=
 ⟨[p], p, [], B, [], [], h, .one, .nil, .nil, rfl, rfl, hB, .nil, .nil, hc⟩
theorem Ret2 {T : Tbl} {S : St} {rv : List ResultVar} {p q r t : PV} (B : List Nat) (h : ResV T S rv [p, q]) (hB : B.all (fun o => Nat.blt o PN && !([] : List Nat).contains o) = true) (hc : ConvP S [] B p r) (hd : ConvP S [] B q t) : Returns T S rv (.tup [r, t]) [] [] :=
 ⟨[p, q], .tup [p, q], [], B, [], [], h, .many, .nil, .nil, rfl, rfl, hB, .nil, .nil, .tup (.cons hc (.cons hd .nil))⟩
theorem Rule.under {P : Program} [Globs P] {T : Tbl} (hT : TOk P T) {γ : Bool} {S : St} {o : Oper} {rn : List Nat} {d : Delta} (h : γ = true → Rule P T true S o rn d) : Rule P T γ S o rn d := .sem fun hγ => (h hγ).sound hT (Eq.refl true)
theorem cvB {S : St} {σ : List (Nat × Nat)} {B : List Nat} {a b : Bool} (h : a = b) : ConvP S σ B (bV a) (bV b) := h ▸ .v
theorem cvI {S : St} {σ : List (Nat × Nat)} {B : List Nat} {k : IntKind} {a b : Int} (h : a = b) : ConvP S σ B (.v (.int k a)) (.v (.int k b)) := h ▸ .v
theorem Trip.seqk {P : Program} [Globs P] {nt : Nat} {S : St} {Q : Exit → St → Prop} (S2 : St) {x y : Code} (h : Trip P nt S x (onNormal (fun S' => Weak nt S' S2) Q)) (k : Trip P nt S2 y Q) : Trip P nt S (.seq x y) Q :=
 Trip.seq (Trip.mono h fun e S' h' => by
  cases e with
  | normal => exact Trip.weak h' k
  | _ => exact h')
end Go.Sym
