/- A part of the proof: SymT, SymU, SymV, SymW. -/
import Derived.Test.YteailifhgfijgaaGreatDoorPart14
import Derived.Lib.Overlaps
import Derived.Laws.Externs
set_option linter.unusedVariables false
set_option linter.unusedSimpArgs false
namespace Go.Sym
open Go.RowKit
section
variable {P : Program} {T : Tbl} {fr : Fr} {S S' : St} {L : LMap} {a : Act} {w : World} {γ : Bool}
variable {ty : Nat} {pos : String} {aft : Array Edge} {g : Option (Nat × Bool)} {dst : Option Nat}
theorem R.arrc {o sz c : Nat} {isnil : Bool} {es : List PV} (h : R fr S L a w) (ho : S.obj o = some (.arrc sz isnil es c)) : ∃ base, L o = some (.arr base es.length c sz) ∧ es.length ≤ c ∧ isnil = base.isNone ∧ (∀ e ∈ es, e.cells.length = sz) ∧
  match base with
  | none => c = 0
  | some (b, off) => CellsAt w (fr.F L) L (cellsOf es) b off ∧ ∀ j, j < c * sz → ∃ x, w.cell? ⟨b, off + j, none⟩ = some x ∧ w.frozen? ⟨b, off + j, none⟩ = false := by
 obtain ⟨l, h1, h2⟩ := h.mem.objs o _ ho
 cases l with
 | arr base n cap sz' => obtain ⟨rfl, rfl, rfl, h3, h4, h5, h6⟩ := h2; exact ⟨base, h1, h3, h4, h5, h6⟩
 | box => exact h2.elim
 | gone => exact h2.elim
 | map => exact h2.elim
 | iter => exact h2.elim
theorem slice_sub {L : LMap} {F : Nat → Prop} {o b off0 m cap sz n c l i : Nat} (hl' : L o = some (.arr (some (b, off0)) m cap sz)) (hm : n = m) (hcc : c = cap) (hic : i ≤ m) (hmc : m ≤ cap) (hli : l ≤ i) :
  Rep w F L (.osl o l (i - l) n) (.slice (some ⟨b, if c = l then off0 else off0 + l * sz, none⟩) (i - l) (c - l)) := by
 refine .osl hl' ⟨by omega, fun _ => ⟨by omega, _, _, rfl, by omega, fun hp => ?_, fun h0 => ?_, by omega⟩⟩ ⟨_, _, _, rfl⟩
 ·rw [if_neg (by omega)]
 ·subst h0; simp
theorem Trip.openCap [Globs P] {nt : Nat} {o sz : Nat} {isnil : Bool} {es : List PV} {c : Code} {Q : Exit → St → Prop} (ho : S.obj o = some (.arr sz isnil es)) (h : ∀ cap, es.length ≤ cap → (isnil = true → cap = 0) → Trip P nt (S.upd [(o, .arrc sz isnil es cap)]) c Q) : Trip P nt S c Q := by
 intro fr hnt hG L a w hR
 obtain ⟨base, cap, hl', hcap, hnil, hes, hcells⟩ := hR.arr ho
 refine h cap hcap (fun hi => by rw [hnil] at hi; cases base with | none => exact hcells | some p => simp at hi) fr hnt hG L a w ⟨⟨fun n ob hn => ?_, fun n l hn => ?_, hR.mem.inj, hR.mem.place, hR.mem.kind, hR.mem.parLt, hR.mem.xLt, hR.mem.frame, hR.mem.lext⟩, hR.nt, hR.defers, fun t p hp => hR.vals t p (by simpa using hp)⟩
 ·simp only [St.obj_upd, look_one] at hn
  split at hn
  ·rename_i e; subst e
   simp at hn; subst hn
   exact ⟨_, hl', rfl, rfl, rfl, hcap, hnil, hes, hcells⟩
  ·simp at hn; exact hR.mem.objs n ob hn
 ·simp only [St.obj_upd, look_one]
  split
  ·exact ⟨_, rfl⟩
  ·simpa using hR.mem.dom n l hn
theorem F_cap [Globs P] (hT : TOk P T) (hγ : γ = true) {t : TypeId} {x : Operand} {o off len n sz c e : Nat} {isnil : Bool} {es : List PV} {ti : TI} (hx : OpdO γ S x (.osl o off len n)) (hl : look T t = some ti) (htd : ti.d = .slice e) (ho : S.obj o = some (.arrc sz isnil es c)) (hs : Side (n = es.length)) :
  FStep P ⟨dst, .call { callee := .builtin .cap, args := #[x], argTypes := #[t] }, ty, pos, aft, g⟩ S [o] ⟨iV (c - off : Nat), []⟩ := by
 refine FStep.val fun fr S' L a w ht hn hR => ?_
 have hr := hx.rep hγ hR (ht x (by simp [Op.operands, Call.operands]))
 obtain ⟨base, hl', hcap, hnil, _, hcells⟩ := hR.arrc ((hn _ (by simp)).trans ho)
 obtain ⟨s1, s2⟩ := hr.osl_at hl' hs
 have hs' : n = es.length := hs
 have key : ∀ bs len c, a.eval x = .slice bs len c → (execOp a.eval ⟨dst, .call { callee := .builtin .cap, args := #[x], argTypes := #[t] }, ty, pos, aft, g⟩).run P w = .ok (.value (goInt c)) w := fun bs len c hv => by
  simp only [execOp, resolve, Sem.run_bind, Sem.run_pure, Result.andThen_ok, invoke, builtin]
  simp [hv, Builtin.cap_, run_underlying (und_slice hT hl htd)]
 cases base with
 | none =>
  simp only at hcells
  subst hcells
  exact ⟨_, key _ _ _ s2, by simp; exact .v _ _⟩
 | some bo =>
  obtain ⟨b, off0⟩ := bo
  obtain ⟨ad, c', hv, hlc, hpos, hq0, hcc⟩ := s2
  subst hcc
  exact ⟨_, key _ _ _ hv, .v _ _⟩
theorem F_sliceC [Globs P] (hT : TOk P T) (hγ : γ = true) {t e : TypeId} {x : Operand} {lo hi : Option Operand} {lo' hi' : Option Int} {o len n sz c : Nat} {isnil : Bool} {es : List PV} {ti ei : TI} (hx : OpdO γ S x (.osl o 0 len n)) (h1 : OptI γ S lo lo') (h2 : OptI γ S hi hi') (hl : look T t = some ti) (htd : ti.d = .slice e)
  (ho : S.obj o = some (.arrc sz isnil es c)) (he : look T e = some ei) (hes' : ei.size = sz) (hs : Side (n = es.length)) (hb : Side (boundsOk len lo' hi')) : FStep P ⟨dst, .slice t x lo hi none, ty, pos, aft, g⟩ S [o] ⟨.osl o (loOf lo') (hiOf len hi' - loOf lo') n, []⟩ := by
 refine FStep.val fun fr S' L a w ht hn hR => ?_
 have hr := hx.rep hγ hR (ht x (by simp [Op.operands]))
 have hto : ∀ y, lo = some y → ∀ t, y = .tmp t → S'.get t = S.get t := fun y hy => ht y (by subst hy; simp [Op.operands])
 have hti : ∀ y, hi = some y → ∀ t, y = .tmp t → S'.get t = S.get t := fun y hy => ht y (by subst hy; simp [Op.operands])
 obtain ⟨base, hl', hcap, hnil, _, hcells⟩ := hR.arrc ((hn _ (by simp)).trans ho)
 obtain ⟨s1, s2⟩ := hr.osl_at hl' hs
 have hs' : n = es.length := hs
 have hb' : boundsOk len lo' hi' := hb
 have hlen : hiOf len hi' ≤ len := by
  unfold hiOf; cases hi' with
  | none => exact Nat.le_refl _
  | some i => have := hb'.1 i rfl; simp only; omega
 have hle : loOf lo' ≤ hiOf len hi' := by
  unfold loOf; cases lo' with
  | none => exact Nat.zero_le _
  | some i => exact (hb'.2 i rfl).2
 cases base with
 | none =>
  simp only at hcells
  have h0 : len = 0 := by omega
  subst h0
  have hbs := run_sliceBounds (P := P) true 0 0 0 hγ h1 h2 rfl (Nat.le_refl _) hR hto hti hb
  have e1 : hiOf 0 hi' = 0 := by omega
  have e2 : loOf lo' = 0 := by omega
  rw [e1, e2] at hbs ⊢
  refine ⟨.slice none 0 0, ?_, .osl hl' ⟨by omega, fun _ => ⟨by omega, rfl⟩⟩ ⟨_, _, _, rfl⟩⟩
  simp [execOp, Instr.sliceAt, Instr.slice, s2, run_underlying (und_slice hT hl htd), hbs, elemSize hT he]
 | some bo =>
  obtain ⟨b, off0⟩ := bo
  obtain ⟨ad, c', hv, hlc, hpos, hq0, hcc⟩ := s2
  obtain rfl := hq0 rfl
  have hbs := run_sliceBounds (P := P) true len c' len hγ h1 h2 rfl hlc hR hto hti hb
  refine ⟨.slice (some ⟨b, if c' = loOf lo' then ad else ad + loOf lo' * ei.size, none⟩) (hiOf len hi' - loOf lo') (c' - loOf lo'), ?_, ?_⟩
  ·simp [execOp, Instr.sliceAt, Instr.slice, hv, run_underlying (und_slice hT hl htd), hbs, elemSize hT he]
   split <;> simp [Addr.add_lit]
  ·rw [hes']
   exact slice_sub hl' hs (by omega) (by omega) hcap hle
end
end Go.Sym
namespace Go.Sym
open Go.RowKit
section
variable {P : Program} {T : Tbl} {fr : Fr} {S S' : St} {L : LMap} {a : Act} {w : World} {γ : Bool}
variable {ty : Nat} {pos : String} {aft : Array Edge} {g : Option (Nat × Bool)} {dst : Option Nat}
theorem run_append_zeros {t t2 ty e n m cap : Nat} {k2 : IntKind} {k3 : IntKind} {i : TypeInfo} {z : Value} (ht : P.underlying t = some (.slice e)) (ht2 : P.underlying t2 = some (.int k2)) (hi : P.info? e = some i) (hz : i.zero = some z) (hzs : z.cells.size = i.size) {old : List Value} {base : Option Addr}
  (hold : (Builtin.firstCells i.size n (.slice base n cap)).run P w.drew = .ok old.toArray w.drew) (hroom : ¬ (n + m ≤ cap))
  (h63 : n + m ≤ 9223372036854775807) (hb : (n + m) * i.bytes ≤ 140737488355328) :
  (Builtin.append_ #[t, t2] ty #[.slice base n cap, .int k3 (m : Int)]).run P w = .ok (.slice (some ⟨w.heap.size, 0, none⟩) (n + m) (grownCap w (n + m) cap e))
   (w.drew.alloc (.cells (old.toArray ++ Builtin.zeroCells z.cells m ++ Builtin.zeroCells z.cells (grownCap w (n + m) cap e - (n + m))) e)) := by
 have h63' : ¬ ((9223372036854775807 : Int) < (n : Int) + (m : Int)) := by omega
 have h48' : ¬ (281474976710656 < Builtin.nextslicecap (n + m) cap * i.bytes) := Nat.not_lt.2 (growslice_fits (by omega) hb)
 have hw : IntKind.i64.wrap (m : Int) = m := IntWalk.i64_in _ (by omega)
 have hmb : m * i.bytes ≤ (n + m) * i.bytes := Nat.mul_le_mul_right _ (by omega)
 have h2 : ¬ ((281474976710656 : Int) < (m : Int) * (i.bytes : Int)) := by
  have : ((m * i.bytes : Nat) : Int) = (m : Int) * (i.bytes : Int) := by simp
  rw [← this]; omega
 have h0 : ¬ ((m : Int) < 0) := by omega
 have hz0 : (if m * i.size = 0 then (#[] : Array Value) else Builtin.zeroCells z.cells m) = Builtin.zeroCells z.cells m := by
  split
  ·rename_i h; apply Array.eq_empty_of_size_eq_zero .. |>.symm; simp [Builtin.zeroCells, hzs, h]
  ·rfl
 by_cases hms : m * i.size = 0
 ·rw [if_pos hms] at hz0
  simp [Builtin.append_, run_underlying ht, run_underlying ht2, sizeOf, typeInfo, zeroValue, hi, hz, hw, h0, h2, hroom, h63', h48', Question.forced, hold, newRow, grownCap, asInt, asIntOf, ← hz0]
 ·simp [Builtin.append_, run_underlying ht, run_underlying ht2, sizeOf, typeInfo, zeroValue, hi, hz, hw, h0, h2, hroom, h63', h48', Question.forced, hold, newRow, grownCap, asInt, asIntOf]
  exact fun h => absurd h hms
theorem F_appendOver [Globs P] (hT : TOk P T) (hγ : γ = true) {k t t2 e m : Nat} {k2 k3 : IntKind} {x y : Operand} {o len n sz by_ c : Nat} {isnil : Bool} {es : List PV} {ti ti2 ei : TI} {zs : List Value} (hx : OpdO γ S x (.osl o 0 len n)) (hy : OpdO γ S y (.v (.int k3 (m : Int))))
  (hl : look T t = some ti) (hd : ti.d = .slice e) (hle : look T e = some ei) (hsz : ei.size = sz) (hby : ei.bytes = by_) (hz : ei.zero = some zs) (hzs : Nat.beq zs.length sz = true) (hl2 : look T t2 = some ti2) (hd2 : ti2.d = .int k2)
  (ho : S.obj o = some (.arrc sz isnil es c)) (hk : S.obj k = none) (hs : Side (n = es.length)) (hover : Side (c < len + m)) (hbytes : Side ((len + m) * by_ ≤ 140737488355328)) (h63 : Side (len + m ≤ 9223372036854775807)) :
  FStep P ⟨some k, .call { callee := .builtin .append, args := #[x, y], argTypes := #[t, t2] }, ty, pos, aft, g⟩ S [o, k] ⟨.osl k 0 (len + m) (len + m), [(k, .arr sz false (es.take len ++ List.replicate m (deadE sz)))]⟩ := by
 intro fr S' ht hn L a w hR hG Q
 obtain ⟨d2, hu2, hd2'⟩ := und_any hT hl2
 have hd3 : d2 = .int k2 := by
  rw [hd2] at hd2'
  cases d2 <;> simp [TD.of] at hd2'
  subst hd2'; rfl
 subst hd3
 subst hsz
 subst hby
 have hp := hx.rep hγ hR (fun t e => ht t (mem_tmps (x := x) (by simp [Op.operands, Call.operands]) t e))
 have hq := (hy.rep hγ hR (fun t e => ht t (mem_tmps (x := y) (by simp [Op.operands, Call.operands]) t e))).inv_v
 have ho' := (hn o (by simp)).trans ho
 have hk' := (hn k (by simp)).trans hk
 obtain ⟨base, hl', hcap, hnil, hes, hcells⟩ := hR.arrc ho'
 obtain ⟨s1, s2⟩ := hp.osl_at hl' hs
 have hs' : n = es.length := hs
 have hov' : c < len + m := hover
 have hu := und_slice hT hl hd
 obtain ⟨z, hzr, hzc, info, hi, hiz, his, hib⟩ := zero_of hT hle hz w
 have hzlen : zs.length = ei.size := Nat.eq_of_beq_eq_true hzs
 have hzsz : z.cells.size = info.size := by rw [hzc, his]; simpa using hzlen
 have hes2 : ∀ e ∈ es.take len, e.cells.length = ei.size := fun e he => hes e (List.mem_of_mem_take he)
 have hb' : (len + m) * info.bytes ≤ 140737488355328 := by rw [hib]; exact hbytes
 have h63' : len + m ≤ 9223372036854775807 := h63
 have hge := grownCap_ge w (len + m)
 obtain ⟨old, cp, hv, hcl, hold, hrold⟩ : ∃ (old : List Value) (bs : Option Addr × Nat), a.eval x = .slice bs.1 len bs.2 ∧ bs.2 ≤ c ∧ (Builtin.firstCells info.size len (.slice bs.1 len bs.2)).run P w.drew = .ok old.toArray w.drew ∧ RepL w (fr.F L) L (cellsOf (es.take len)) old := by
  cases base with
  | none =>
   simp only at hcells
   have hc0 : c = 0 := hcells
   have h0 : len = 0 := by omega
   subst h0
   exact ⟨[], (none, 0), s2, by omega, by simp [Builtin.firstCells], by simp; exact .nil _⟩
  | some bo =>
   obtain ⟨b, off⟩ := bo
   obtain ⟨ad, c', hv, hlc, hpos, hq0, hcc⟩ := s2
   obtain rfl := hq0 rfl
   rw [Nat.sub_zero] at hcc
   subst hcc
   obtain ⟨vs, g1, g2, g3⟩ := cells_list (w := w) (F := fr.F L) (L := L) (b := b) (ds := cellsOf (es.take len)) (o := ad) (fun j p hj => by
    rw [cellsOf_take hes, List.getElem?_take] at hj
    split at hj
    ·obtain ⟨y, m1, _, m2⟩ := hcells.1 j p hj
     exact ⟨y, m1, m2⟩
    ·simp at hj)
   have hvl : vs.length = len * info.size := by rw [g1, cellsOf_length hes2, his, List.length_take, Nat.min_eq_left (by omega)]
   exact ⟨vs, (some ⟨b, ad, none⟩, c'), hv, Nat.le_refl _, run_firstCells_list (w := w.drew) hvl g3 _, g2⟩
 have hol : old.length = len * ei.size := by rw [← repL_length hrold, cellsOf_length hes2, List.length_take, Nat.min_eq_left (by omega)]
 have hr := run_append_zeros (P := P) (w := w) (t := t) (t2 := t2) (ty := ty) (e := e) (n := len) (m := m) (cap := cp.2) (k2 := k2) (k3 := k3) (base := cp.1) (old := old) hu hu2 hi hiz hzsz hold (by omega) h63' hb'
 have key : (execOp a.eval ⟨some k, .call { callee := .builtin .append, args := #[x, y], argTypes := #[t, t2] }, ty, pos, aft, g⟩).run P w = .ok (.value (.slice (some ⟨w.heap.size, 0, none⟩) (len + m) (grownCap w (len + m) cp.2 e))) (w.drew.alloc (.cells (old.toArray ++ Builtin.zeroCells z.cells m ++ Builtin.zeroCells z.cells (grownCap w (len + m) cp.2 e - (len + m))) e)) := by
  simp only [execOp, resolve, Sem.run_bind, Sem.run_pure, Result.andThen_ok, invoke, builtin]
  simp [hv, hq, hr]
 have hge := grownCap_ge w (len + m) cp.2 e
 have hdl : ∀ e ∈ List.replicate m (deadE ei.size), e.cells.length = ei.size := fun e he => by rw [List.eq_of_mem_replicate he]; simp [deadE, PV.cells]
 have hll : (es.take len ++ List.replicate m (deadE ei.size)).length = len + m := by simp; omega
 have hzm : (Builtin.zeroCells z.cells m).toList.length = m * ei.size := by rw [Array.length_toList, size_zeroCells', hzsz, his]
 obtain ⟨L', h1, h2⟩ := R.moveArr (hR.drew) (o := k) (sz := ei.size) (cap := grownCap w (len + m) cp.2 e) (es := es.take len ++ List.replicate m (deadE ei.size)) (vs := old ++ (Builtin.zeroCells z.cells m).toList ++ (Builtin.zeroCells z.cells (grownCap w (len + m) cp.2 e - (len + m))).toList) (fun l0 h => (hR.noL hk' l0 h).elim)
  (fun e he => (List.mem_append.1 he).elim (hes2 e) (hdl e))
  (by
   rw [hll, List.take_left' (by rw [List.length_append, hol, hzm, Nat.add_mul]), cellsOf_append]
   have hext : Ext w (fr.F L) w.drew (fr.F L) := fun b s hx hn => ⟨sees_drew hx, hn⟩
   exact repL_append (hrold.mono hext (LExt.refl L)) (repL_dead _ _ (by rw [cellsOf_length hdl, hzm]; simp) (fun p hp => by
    simp only [cellsOf, List.mem_flatMap] at hp
    obtain ⟨e, he, hpe⟩ := hp
    rw [List.eq_of_mem_replicate he] at hpe
    exact List.eq_of_mem_replicate hpe)))
  (by
   simp only [List.length_append, Array.length_toList, size_zeroCells', hzsz, his, hol, ← Nat.add_mul]
   congr 1; omega)
  (by rw [hll]; exact hge) e
 unfold Oper.wp
 rw [key, Oper.upon_value]
 have harr : (old ++ (Builtin.zeroCells z.cells m).toList ++ (Builtin.zeroCells z.cells (grownCap w (len + m) cp.2 e - (len + m))).toList).toArray = old.toArray ++ Builtin.zeroCells z.cells m ++ Builtin.zeroCells z.cells (grownCap w (len + m) cp.2 e - (len + m)) := by
  apply Array.ext'; simp
 rw [harr] at h1
 refine ⟨_, L', rfl, h1, ?_⟩
 rw [hll] at h2
 exact oslFull h2 hge
theorem F_appendOver' [Globs P] (hT : TOk P T) (hγ : γ = true) {k t t2 e : Nat} {j : Int} {k2 k3 : IntKind} {x y : Operand} {o len n sz by_ c : Nat} {isnil : Bool} {es : List PV} {ti ti2 ei : TI} {zs : List Value} (hx : OpdO γ S x (.osl o 0 len n)) (hy : OpdO γ S y (.v (.int k3 j)))
  (hl : look T t = some ti) (hd : ti.d = .slice e) (hle : look T e = some ei) (hsz : ei.size = sz) (hby : ei.bytes = by_) (hz : ei.zero = some zs) (hzs : Nat.beq zs.length sz = true) (hl2 : look T t2 = some ti2) (hd2 : ti2.d = .int k2)
  (ho : S.obj o = some (.arrc sz isnil es c)) (hk : S.obj k = none) (hs : Side (n = es.length)) (hj : Side (0 ≤ j)) (hover : Side (c < len + j.toNat)) (hbytes : Side ((len + j.toNat) * by_ ≤ 140737488355328)) (h63 : Side (len + j.toNat ≤ 9223372036854775807)) :
  FStep P ⟨some k, .call { callee := .builtin .append, args := #[x, y], argTypes := #[t, t2] }, ty, pos, aft, g⟩ S [o, k] ⟨.osl k 0 (len + j.toNat) (len + j.toNat), [(k, .arr sz false (es.take len ++ List.replicate j.toNat (deadE sz)))]⟩ := by
 have hj' : 0 ≤ j := hj
 have e : j = ((j.toNat : Nat) : Int) := by omega
 rw [e] at hy
 exact F_appendOver hT hγ hx hy hl hd hle hsz hby hz hzs hl2 hd2 ho hk hs hover hbytes h63
theorem Weak.shift {nt : Nat} {S' : St} (o o' sz : Nat) {nl nl' : Bool} {es es' : List PV} {t' : List (Nat × PV)} (hoo : o ≠ o') (ho : S.obj o = some (.arr sz nl es) ∨ ∃ c, S.obj o = some (.arrc sz nl es c)) (ho' : S.obj o' = some (.arr sz nl' es')) (hlt : Side (es.length < es'.length)) (hp : plainL es' = true) (hpn : o' < PN)
  (hS : S.o.all (fun x => Nat.beq x.1 o || Nat.blt x.1 PN) = true) (ht : TurnT S [(o', o)] [] t') : Weak nt S ⟨t', [(o, .arr sz nl' es')]⟩ := by
 intro fr hnt L a w hR
 have hM := hR.mem
 obtain ⟨base', cap', hl', hcap', hnil', hes', hcells'⟩ := hR.arr ho'
 have hlo : ∃ base cap, L o = some (.arr base es.length cap sz) := by
  rcases ho with ho | ⟨c, ho⟩
  ·obtain ⟨base, cap, h1, _⟩ := hR.arr ho; exact ⟨base, cap, h1⟩
  ·obtain ⟨base, h1, _⟩ := hR.arrc ho; exact ⟨base, c, h1⟩
 obtain ⟨base, cap, hl⟩ := hlo
 have hlt' : es.length < es'.length := hlt
 let L' : LMap := fun n => if n = o then L o' else none
 have hLo : L' o = some (.arr base' es'.length cap' sz) := by simp [L', hl']
 have hL2 : ∀ n l, L' n = some l → n = o ∧ L o' = some l := fun n l h => by
  simp only [L'] at h
  split at h
  ·rename_i e; exact ⟨e, h⟩
  ·simp at h
 have hF : ∀ b, ¬ fr.F L b → ¬ fr.F L' b := fun b hn h => by
  rcases h with h | ⟨n, l, h1, h2⟩
  ·exact hn (.inl h)
  ·exact hn (.inr ⟨o', l, (hL2 n l h1).2, h2⟩)
 have hcv := conv_rep_all (L' := L') (F' := fr.F L') hM (σ := [(o', o)]) (B := []) hF (fun o h => by simp at h) (fun x y h l hx => by
  rw [look_cons] at h
  split at h
  ·rename_i e; subst e
   simp at h; subst h
   simp only [L', if_true]; exact hx
  ·simp [look] at h)
 refine ⟨L', ⟨fun n ob hn => ?_, fun n l hn => ?_, fun n n' l l' b hn hn' _ _ => (hL2 n l hn).1.trans (hL2 n' l' hn').1.symm, fun n l b hn hb => hM.place o' l b (hL2 n l hn).2 hb, fun n l b hn hb => hM.kind o' l b (hL2 n l hn).2 hb, hM.parLt, hM.xLt, hM.frame, fun n l h => ?_⟩, hR.nt, hR.defers, fun t p hp => ?_⟩
 ·have hn' : look [(o, SObj.arr sz nl' es')] n = some ob := hn
  rw [look_cons] at hn'
  split at hn'
  ·rename_i e; subst e
   simp at hn'; subst hn'
   refine ⟨_, hLo, rfl, rfl, hcap', hnil', hes', ?_⟩
   cases base' with
   | none => exact hcells'
   | some bo =>
    refine ⟨fun j c hj => ?_, hcells'.2⟩
    obtain ⟨x, k1, k2, k3⟩ := hcells'.1 j c hj
    obtain ⟨e, he, hce⟩ := List.mem_flatMap.1 (List.mem_of_getElem? hj)
    exact ⟨x, k1, k2, (k3.plain (plain_cells (plainL_mem hp e he) c hce) L').mono (fun b s hx hn => ⟨hx, hF b hn⟩) (LExt.refl _)⟩
  ·simp [look] at hn'
 ·obtain ⟨rfl, _⟩ := hL2 n l hn
  exact ⟨_, by show look [(n, SObj.arr sz nl' es')] n = _; rw [look_cons, if_pos rfl]⟩
 ·obtain ⟨l1, h1, h2⟩ := hM.lext n l h
  obtain ⟨ob, hob⟩ := hM.dom n l1 h1
  have hpn := hnt.2 n l h
  have := (List.all_eq_true.1 hS) _ (look_mem hob)
  simp only [Bool.or_eq_true, Nat.beq_eq, Nat.blt_eq] at this
  obtain rfl : n = o := by
   rcases this with e | e
   ·exact Nat.eq_of_beq_eq_true (by simpa using e)
   ·omega
  rw [hl] at h1
  cases h1
  refine ⟨_, hLo, fun off x hx => trivial, fun off len k x hk => ?_, fun i off k x hk => ?_⟩
  ·have := h2.2.1 off len k x hk
   exact ⟨by have := this.1; omega, fun h => by have := this.1; omega⟩
  ·have := h2.2.2 i off k x hk
   cases base with
   | none =>
    have hk' : k < es.length := this
    cases base' with
    | none => show k < _; omega
    | some p => exact ⟨by omega, fun h => by omega⟩
   | some p =>
    have hk' : k ≤ es.length := this.1
    cases base' with
    | none => show k < _; omega
    | some p => exact ⟨by omega, fun h => by omega⟩
 ·have hmem := look_mem hp
  obtain ⟨q, g1, g2⟩ := ht.get t p hmem
  obtain ⟨x, h1, h2⟩ := hR.vals t q g1
  exact ⟨x, h1, hcv.1 g2 x h2⟩
end
theorem bok {n : Nat} {a b : Int} (h : 0 ≤ a ∧ a ≤ b ∧ b ≤ n) : Side (boundsOk n (some a) (some b)) := ⟨fun i hi => by cases hi; omega, fun i hi => by cases hi; simp only [hiOf]; omega⟩
theorem bokL {n : Nat} {a : Int} (h : 0 ≤ a ∧ a ≤ n) : Side (boundsOk n (some a) none) := ⟨fun i hi => (by cases hi), fun i hi => by cases hi; simp only [hiOf]; omega⟩
theorem bokR {n : Nat} {b : Int} (h : 0 ≤ b ∧ b ≤ n) : Side (boundsOk n none (some b)) := ⟨fun i hi => by cases hi; omega, fun i hi => (by cases hi)⟩
theorem vI {k : IntKind} {a b : Int} (h : a = b) : PV.v (.int k a) = .v (.int k b) := by rw [h]
theorem vB {a b : Bool} (h : a = b) : bV a = bV b := by rw [h]
theorem Ret1 {T : Tbl} {S : St} {rv : List ResultVar} {p r : PV} (B : List Nat) (h : ResV T S rv [p]) (hB : B.all (fun o => Nat.blt o PN && !([] : List Nat).contains o) = true) (hc : ConvP S [] B p r) : Returns T S rv r [] [] :=
 ⟨[p], p, [], B, [], [], h, .one, .nil, .nil, rfl, rfl, hB, .nil, .nil, hc⟩
theorem Ret2 {T : Tbl} {S : St} {rv : List ResultVar} {p q r t : PV} (B : List Nat) (h : ResV T S rv [p, q]) (hB : B.all (fun o => Nat.blt o PN && !([] : List Nat).contains o) = true) (hc : ConvP S [] B p r) (hd : ConvP S [] B q t) : Returns T S rv (.tup [r, t]) [] [] :=
 ⟨[p, q], .tup [p, q], [], B, [], [], h, .many, .nil, .nil, rfl, rfl, hB, .nil, .nil, .tup (.cons hc (.cons hd .nil))⟩
theorem Rule.under {P : Program} [Globs P] {T : Tbl} (hT : TOk P T) {γ : Bool} {S : St} {o : Oper} {rn : List Nat} {d : Delta} (h : γ = true → Rule P T true S o rn d) : Rule P T γ S o rn d := .sem fun hγ => (h hγ).sound hT (Eq.refl true)
theorem cvB {S : St} {σ : List (Nat × Nat)} {B : List Nat} {a b : Bool} (h : a = b) : ConvP S σ B (bV a) (bV b) := h ▸ .v
theorem cvI {S : St} {σ : List (Nat × Nat)} {B : List Nat} {k : IntKind} {a b : Int} (h : a = b) : ConvP S σ B (.v (.int k a)) (.v (.int k b)) := h ▸ .v
theorem Trip.seqk {P : Program} [Globs P] {nt : Nat} {S : St} {Q : Exit → St → Prop} (S2 : St) {x y : Code} (h : Trip P nt S x (onNormal (fun S' => Weak nt S' S2) Q)) (k : Trip P nt S2 y Q) : Trip P nt S (.seq x y) Q :=
 Trip.seq (Trip.mono h fun e S' h' => by
  cases e with
  | normal => exact Trip.weak h' k
  | _ => exact h')
end Go.Sym
namespace Go.Sym
open Go.RowKit
section
variable {P : Program} {T : Tbl} {fr : Fr} {S S' : St} {L L' : LMap} {a : Act} {w : World} {F F' : Nat → Prop} {γ : Bool}
variable {ty : Nat} {pos : String} {aft : Array Edge} {g : Option (Nat × Bool)} {dst : Option Nat}
theorem ObjAt.mono {ob : SObj} {l : Loc} (h : ObjAt w F L ob l) (hE : Ext w F w F') (hl : LExt L L') : ObjAt w F' L' ob l := by
 cases ob with
 | box cs =>
  cases l with
  | box b off k => exact ⟨h.1, fun j c hj => by obtain ⟨x, g1, g2, g3⟩ := h.2 j c hj; exact ⟨x, g1, g2, g3.mono hE hl⟩⟩
  | arr => exact h.elim
  | gone => exact h.elim
  | map => exact h.elim
  | iter => exact h.elim
 | arr sz nl es =>
  cases l with
  | arr base n' cap sz' =>
   cases base with
   | none => exact h
   | some bo =>
    obtain ⟨k1, k2, k3, k4, k5, k6, k7⟩ := h
    exact ⟨k1, k2, k3, k4, k5, fun j c hj => by obtain ⟨x, g1, g2, g3⟩ := k6 j c hj; exact ⟨x, g1, g2, g3.mono hE hl⟩, k7⟩
  | box => exact h.elim
  | gone => exact h.elim
  | map => exact h.elim
  | iter => exact h.elim
 | arrc sz nl es cc =>
  cases l with
  | arr base n' cap sz' =>
   cases base with
   | none => exact h
   | some bo =>
    obtain ⟨k0, k1, k2, k3, k4, k5, k6, k7⟩ := h
    exact ⟨k0, k1, k2, k3, k4, k5, fun j c hj => by obtain ⟨x, g1, g2, g3⟩ := k6 j c hj; exact ⟨x, g1, g2, g3.mono hE hl⟩, k7⟩
  | box => exact h.elim
  | gone => exact h.elim
  | map => exact h.elim
  | iter => exact h.elim
 | gone => cases l <;> exact h
 | map ks vs =>
  cases l with
  | map b =>
   obtain ⟨es, clock, k1, k2, k3, k4, k5⟩ := h
   exact ⟨es, clock, k1, k2, k3.mono hE hl, k4, k5⟩
  | _ => exact h.elim
 | iter nl ks vs seen =>
  cases l with
  | iter b => exact ItAt.mono h hE rfl
  | _ => exact h.elim
def giveL (L : LMap) (G : List Nat) : LMap := fun n => if G.contains n then some .gone else L n
def goneL (G : List Nat) : List (Nat × SObj) := G.map fun n => (n, SObj.gone)
theorem look_goneL {G : List Nat} {n : Nat} : look (goneL G) n = if G.contains n then some .gone else none := by
 induction G with
 | nil => rfl
 | cons k r ih =>
  simp only [goneL, List.map_cons] at ih ⊢
  rw [look_cons, ih]
  by_cases e : k = n
  ·subst e; simp
  ·have : ¬ n = k := fun h => e h.symm
   simp [e, this]
theorem giveL_some {G : List Nat} {n b : Nat} {l : Loc} (h : giveL L G n = some l) (hb : l.blk = some b) : L n = some l ∧ G.contains n = false := by
 simp only [giveL] at h
 split at h
 ·cases h; simp [Loc.blk] at hb
 ·rename_i hc; exact ⟨h, by simpa using hc⟩
theorem giveL_ext (L : LMap) (G : List Nat) : LExt L (giveL L G) := fun o l h => by
 simp only [giveL]
 split
 ·exact ⟨_, rfl, fun _ _ _ => trivial, fun _ _ _ _ _ => trivial, fun _ _ _ _ _ => trivial⟩
 ·exact ⟨l, h, l.le_refl⟩
theorem giveF {G : List Nat} {b : Nat} (h : fr.F (giveL L G) b) : fr.F L b := by
 rcases h with h | ⟨n, l, h1, h2⟩
 ·exact .inl h
 ·exact .inr ⟨n, l, (giveL_some h1 h2).1, h2⟩
theorem R.giveUp (hR : R fr S L a w) {G : List Nat} : R fr (S.upd (goneL G)) (giveL L G) a w := by
 have hM := hR.mem
 have hE : Ext w (fr.F L) w (fr.F (giveL L G)) := fun b s hx hn => ⟨hx, fun h => hn (giveF h)⟩
 refine ⟨⟨fun n ob hn => ?_, fun n l hn => ?_, fun n n' l l' b hn hn' hb hb' => hM.inj n n' l l' b (giveL_some hn hb).1 (giveL_some hn' hb').1 hb hb', fun n l b hn hb => hM.place n l b (giveL_some hn hb).1 hb, fun n l b hn hb => hM.kind n l b (giveL_some hn (blk_of_range hb)).1 hb, hM.parLt, hM.xLt, hM.frame, hM.lext.trans (giveL_ext L G)⟩, hR.nt, hR.defers, fun t p hp => ?_⟩
 ·rw [St.obj_upd, look_goneL] at hn
  simp only [giveL]
  split at hn
  ·rename_i hc
   simp at hn; subst hn
   exact ⟨.gone, by rw [if_pos hc], by simp [ObjAt]⟩
  ·rename_i hc
   simp at hn
   obtain ⟨l, h1, h2⟩ := hM.objs n ob hn
   exact ⟨l, by rw [if_neg hc]; exact h1, h2.mono hE (giveL_ext L G)⟩
 ·rw [St.obj_upd, look_goneL]
  simp only [giveL] at hn
  split at hn
  ·rename_i hc; exact ⟨_, by rw [if_pos hc]; rfl⟩
  ·rename_i hc; rw [if_neg hc]; simpa using hM.dom n l hn
 ·obtain ⟨x, h1, h2⟩ := hR.vals t p (by simpa using hp)
  exact ⟨x, h1, h2.mono hE (giveL_ext L G)⟩
theorem F_callG [Globs P] (hγ : γ = true) {dst : Option Nat} {x : Operand} {args : Array Operand} {ats : Array TypeId} {f : FuncId} {first caps ps qs : List PV} {r r2 : PV} {σ G news : List Nat} {cs objs objs' objs2 fresh fresh2 : List SObj}
  (hx : OpdO γ S x (.clo (.func f) first caps)) (hargs : OpdsO γ S args.toList ps) (hspec : Ctr P f qs objs r objs' fresh)
  (hconv : ConvL S (fwd PN σ) G (first ++ (ps ++ caps)) qs) (hobj : Objs S σ cs) (hco : SConvs S (fwd PN σ) [] cs objs) (hno : NoObjs S news)
  (hd1 : distinct σ = true) (hd2 : distinct news = true) (hσG : G.all (fun o => !σ.contains o) = true) (hnG : G.all (fun o => !news.contains o) = true) (hlf : Nat.beq fresh.length news.length = true) (hbig : Nat.ble σ.length 1000 = true)
  (hc1 : SConvs ⟨[], []⟩ (bwd PN σ ++ bwd FN news) [] objs' objs2) (hc2 : SConvs ⟨[], []⟩ (bwd PN σ ++ bwd FN news) [] fresh fresh2) (hcr : ConvP ⟨[], []⟩ (bwd PN σ ++ bwd FN news) [] r r2) :
  FStep P ⟨dst, .call { callee := .value x, args := args, argTypes := ats }, ty, pos, aft, g⟩ S (σ ++ (G ++ news)) ⟨r2, (zipO σ objs2 ++ zipO news fresh2) ++ goneL G⟩ := by
 intro fr S' ht hn L a w hR hG Q
 have hlf' := Nat.eq_of_beq_eq_true hlf
 have hbig' := Nat.le_of_ble_eq_true hbig
 have hGn : ∀ n, G.contains n = true → S'.obj n = S.obj n := fun n h => hn n (by simp at h; simp [h])
 have hx' := hx.rep hγ hR (fun t e => ht t (mem_tmps (x := x) (by simp [Op.operands, Call.operands]) t e))
 have ha' := hargs.rep hγ hR (fun y hy t e => ht t (mem_tmps (x := y) (by simp only [Op.operands, Call.operands]; simp; exact .inr (Array.mem_toList_iff.1 hy)) t e))
 have hconv' := (conv_agree_all hGn).2 hconv
 have hR2 := hR.giveUp (G := G)
 have hσG' : ∀ o, o ∈ σ → G.contains o = false := fun o ho => by
  cases hc : G.contains o with
  | false => rfl
  | true =>
   have := (List.all_eq_true.1 hσG) o (by simpa using hc)
   simp [ho] at this
 have hnG' : ∀ o, o ∈ news → G.contains o = false := fun o ho => by
  cases hc : G.contains o with
  | false => rfl
  | true =>
   have := (List.all_eq_true.1 hnG) o (by simpa using hc)
   simp [ho] at this
 have hS2 : ∀ n, G.contains n = false → (S'.upd (goneL G)).obj n = S'.obj n := fun n h => by
  rw [St.obj_upd, look_goneL, h]; simp
 have hobj' := hobj.agree (S' := S'.upd (goneL G)) (fun n h => (hS2 n (hσG' n h)).trans (hn n (by simp [h])))
 have hco' := hco.agree (S' := S'.upd (goneL G)) (fun n h => by simp at h)
 have hno' := hno.agree (S' := S'.upd (goneL G)) (fun n h => (hS2 n (hnG' n h)).trans (hn n (by simp [h])))
 obtain ⟨hcall, hsp⟩ := hspec
 have hM1 := call_entry (w := w) (B := []) hR2.mem hd1 (by rfl) hobj' hco'
 generalize hv : a.eval x = v at hx'
 cases hx' with
 | @clo _ _ _ _ fs cvs hf hcp =>
  have hall := repL_append hf (repL_append ha' hcp)
  have hcv := conv_rep_all (L' := subL (giveL L G) σ) (F' := (callFr fr (giveL L G) w σ []).F (callFr fr (giveL L G) w σ []).L0) hR.mem (σ := fwd PN σ) (B := G) (fun b h h' => h (giveF (callF_sub h'))) (fun o h l b h1 h2 h' => by
   rcases callF_sub h' with hX | ⟨n, l', k1, k2⟩
   ·exact (hR.mem.place o l b h1 h2).1 hX
   ·obtain ⟨m1, m2⟩ := giveL_some k1 k2
    have := hR.mem.inj o n l l' b h1 m1 h2 k2
    subst this
    rw [m2] at h; simp at h) (fun o o' h l hl => by
   obtain ⟨i, h1, rfl⟩ := look_fwd _ _ _ _ h
   rw [subL_at h1]
   simp only [giveL, hσG' o (List.mem_of_getElem? h1)]
   exact hl)
  have hargs' := hcv.2 hconv' _ hall
  have hC := hsp (callFr fr (giveL L G) w σ []) w _ rfl hG hM1 hargs'
  unfold Oper.wp
  have hrun : (execOp a.eval ⟨dst, .call { callee := .value x, args := args, argTypes := ats }, ty, pos, aft, g⟩).run P w = .ok (.enter f (fs ++ (args.toList.map a.eval ++ cvs)).toArray) w := by
   have : (fs ++ (args.toList.map a.eval ++ cvs)).toArray = fs.toArray ++ args.map a.eval ++ cvs.toArray := by
    apply Array.ext'; simp
   rw [this]
   simp only [execOp, resolve, hv, Deferred.ofValue, Sem.run_bind, Sem.run_pure, Result.andThen_ok, invoke]
   exact run_callFunc hcall _
  rw [hrun, Oper.upon_enter]
  refine hC.mono ?_
  rintro e w' ⟨v', L2, rfl, hlo, hM2, hr⟩
  have hsl : objs'.length = σ.length := by rw [hlo, ← hco'.get.1, ← hobj'.get.1]
  have hex := call_exit hR2 hd1 (by rfl) hobj' hd2 hno' hsl hlf' (by omega) hM2 hr hc1 hc2 hcr (.inl rfl)
  refine ⟨v', _, rfl, hex.1.eqv ⟨fun t => rfl, fun n => ?_⟩, hex.2⟩
  simp only [St.obj_upd, look_append, Option.or_assoc]
end
theorem cvView {S : St} {σ : List (Nat × Nat)} {B : List Nat} {o off len n sz : Nat} {nl : Bool} {es es2 : List PV} (h1 : B.contains o = true) (h2 : S.obj o = some (.arr sz nl es)) (h3 : Side (n = es.length)) (h4 : Side (plainL es = true)) (h5 : Side ((es.drop off).take len = es2)) : ConvP S σ B (.osl o off len n) (.sl nl sz es2) := by
 have : (es.drop off).take len = es2 := h5
 subst this
 exact .bView h1 h2 h3 h4
end Go.Sym
namespace Go.Sym
open Go.RowKit
section
variable {P : Program} {T : Tbl} {S : St} {γ : Bool}
variable {ty : Nat} {pos : String} {aft : Array Edge} {g : Option (Nat × Bool)}
theorem F_call0 [Globs P] (hγ : γ = true) {dst : Option Nat} {x : Operand} {args : Array Operand} {ats : Array TypeId} {f : FuncId} {first caps ps qs : List PV} {r r2 : PV} {B : List Nat}
  (hx : OpdO γ S x (.clo (.func f) first caps)) (hargs : OpdsO γ S args.toList ps) (hspec : Ctr P f qs [] r [] [])
  (hconv : ConvL S (fwd PN []) B (first ++ (ps ++ caps)) qs) (hσB : B.all (fun o => !([] : List Nat).contains o) = true) (hcr : ConvP ⟨[], []⟩ (bwd PN [] ++ bwd FN []) [] r r2)
  (hro : Side (B = [] ∨ (roFree r = true ∧ ([] : List SObj).all SObj.roFree = true ∧ ([] : List SObj).all SObj.roFree = true))) :
  FStep P ⟨dst, .call { callee := .value x, args := args, argTypes := ats }, ty, pos, aft, g⟩ S ([] ++ (B ++ [])) ⟨r2, []⟩ :=
 F_call (σ := []) (news := []) hγ hx hargs hspec hconv .nil .nil .nil rfl rfl hσB rfl rfl .nil .nil hcr hro
end
end Go.Sym
