/- A part of the proof: SymS, SymT. -/
import Derived.Test.YtbnnmnbidkpmcaaGreatDoorPart13
set_option linter.unusedVariables false
set_option linter.unusedSimpArgs false
namespace Go.Sym
open Go.RowKit
section
variable {P : Program} {T : Tbl} {fr : Fr} {S S' : St} {L : LMap} {a : Act} {w : World} {γ : Bool}
variable {ty : Nat} {pos : String} {aft : Array Edge} {g : Option (Nat × Bool)} {dst : Option Nat}
theorem F_max [Globs P] (hγ : γ = true) {x y : Operand} {ts : Array TypeId} {k : IntKind} {i j : Int} (hx : OpdO γ S x (.v (.int k i))) (hy : OpdO γ S y (.v (.int k j))) :
  FStep P ⟨dst, .call { callee := .builtin .max, args := #[x, y], argTypes := ts }, ty, pos, aft, g⟩ S [] ⟨.v (.int k (max i j)), []⟩ := by
 refine FStep.val fun fr S' L a w ht hn hR => ?_
 have h1 := (hx.rep hγ hR (ht x (by simp [Op.operands, Call.operands]))).inv_v
 have h2 := (hy.rep hγ hR (ht y (by simp [Op.operands, Call.operands]))).inv_v
 have e : (if j > i then j else i) = max i j := by split <;> omega
 refine ⟨_, ?_, .v _ _⟩
 simp only [execOp, resolve, Sem.run_bind, Sem.run_pure, Result.andThen_ok, invoke, builtin]
 simp [h1, h2, Builtin.max_, Builtin.max2, ← e]
def putAt (es : List PV) (k : Nat) (xs : List PV) : List PV := es.take k ++ (xs ++ es.drop (k + xs.length))
theorem putAt_length {es xs : List PV} {k : Nat} (h : k + xs.length ≤ es.length) : (putAt es k xs).length = es.length := by
 simp only [putAt, List.length_append, List.length_take, List.length_drop]; omega
theorem putAt_mem {es xs : List PV} {k : Nat} {e : PV} (h : e ∈ putAt es k xs) : e ∈ es ∨ e ∈ xs := by
 simp only [putAt, List.mem_append] at h
 rcases h with h | h | h
 ·exact .inl (List.mem_of_mem_take h)
 ·exact .inr h
 ·exact .inl (List.mem_of_mem_drop h)
theorem putAt_nil (es : List PV) (k : Nat) : putAt es k [] = es := by simp [putAt]
theorem R.putRows (hR : R fr S L a w) {o sz cap b off : Nat} {es xs : List PV} {news : List Value} {k : Nat} (hl : L o = some (.arr (some (b, off)) es.length cap sz)) (hcap : es.length ≤ cap) (hes : ∀ e ∈ es, e.cells.length = sz)
  (hcells : CellsAt w (fr.F L) L (cellsOf es) b off ∧ ∀ j, j < cap * sz → ∃ x, w.cell? ⟨b, off + j, none⟩ = some x ∧ w.frozen? ⟨b, off + j, none⟩ = false) (hk : k + xs.length ≤ es.length) (hxs : ∀ e ∈ xs, e.cells.length = sz) (hnews : RepL w (fr.F L) L (cellsOf xs) news) :
  R fr (S.upd [(o, .arr sz false (putAt es k xs))]) (L.set o (.arr (some (b, off)) es.length cap sz)) a (w.setCells b (off + k * sz) news) := by
 have hnl : news.length = xs.length * sz := by rw [← cellsOf_length hxs, repL_length hnews]
 have hfit : k * sz + news.length ≤ es.length * sz := by rw [hnl, ← Nat.add_mul]; exact Nat.mul_le_mul_right _ hk
 have hfit2 : es.length * sz ≤ cap * sz := Nat.mul_le_mul_right _ hcap
 have hc : ∀ j, j < news.length → ∃ x, w.cell? ⟨b, off + k * sz + j, none⟩ = some x ∧ w.frozen? ⟨b, off + k * sz + j, none⟩ = false := fun j hj => by
  have := hcells.2 (k * sz + j) (by omega)
  simpa [Nat.add_assoc] using this
 refine (R.write hR (o := o) (b := b) (lo := off) (n := cap * sz) (q := off + k * sz) (l := .arr (some (b, off)) es.length cap sz) (l' := .arr (some (b, off)) es.length cap sz)
  (ob' := .arr sz false (putAt es k xs)) (vs := news) hl rfl rfl ⟨by omega, by omega⟩ (Loc.le_refl _) rfl rfl id (fun hext hlx => ?_)).1
 have hcsA := fun j => cells_setCells (w := w) (b := b) (q := off + k * sz) (vs := news) (fun j hj => by obtain ⟨x, hx, _⟩ := hc j hj; simp [hx]) (off + j)
 refine ⟨rfl, (putAt_length hk).symm, hcap, rfl, fun x hx => (putAt_mem hx).elim (hes x) (hxs x), fun j c' hj => ?_, fun j hj => ?_⟩
 ·rw [hcsA j, World.frozen?_setCells]
  have hlt : (cellsOf (es.take k)).length = k * sz := by rw [cellsOf_length (fun e he => hes e (List.mem_of_mem_take he))]; rw [List.length_take, Nat.min_eq_left (by omega)]
  have hlx2 : (cellsOf xs).length = news.length := by rw [cellsOf_length hxs, hnl]
  simp only [putAt, cellsOf_append] at hj
  rw [List.getElem?_append, hlt] at hj
  split at hj
  ·rename_i h1
   rw [if_neg (by omega)]
   rw [cellsOf_take hes, List.getElem?_take, if_pos h1] at hj
   obtain ⟨x, k1, k2, k3⟩ := hcells.1 j c' hj
   exact ⟨x, k1, k2, k3.mono hext hlx⟩
  ·rename_i h1
   rw [List.getElem?_append, hlx2] at hj
   split at hj
   ·rename_i h2
    obtain ⟨x, k1, k2⟩ := repL_get hnews _ _ hj
    obtain ⟨_, _, k4⟩ := hcells.2 j (by omega)
    exact ⟨x, by rw [if_pos ⟨by omega, by omega⟩, show off + j - (off + k * sz) = j - k * sz by omega]; exact k1, k4, k2.mono hext hlx⟩
   ·rename_i h2
    rw [if_neg (by omega)]
    rw [cellsOf_drop hes, List.getElem?_drop, Nat.add_mul, ← hnl, show k * sz + news.length + (j - k * sz - news.length) = j by omega] at hj
    obtain ⟨x, k1, k2, k3⟩ := hcells.1 j c' hj
    exact ⟨x, k1, k2, k3.mono hext hlx⟩
 ·rw [hcsA j, World.frozen?_setCells]
  obtain ⟨x, k1, k2⟩ := hcells.2 j hj
  split
  ·exact ⟨news[off + j - (off + k * sz)]'(by omega), List.getElem?_eq_getElem _, k2⟩
  ·exact ⟨x, k1, k2⟩
theorem repL_take {F : Nat → Prop} : ∀ {ps : List PV} {vs : List Value} (k : Nat), RepL w F L ps vs → RepL w F L (ps.take k) (vs.take k)
 | _, _, 0, _ => by simp; exact .nil _
 | [], _, k + 1, h => by cases h; simp; exact .nil _
 | _ :: _, _, k + 1, h => by cases h with | cons h1 h2 => simp only [List.take_succ_cons]; exact .cons h1 (repL_take k h2)
theorem F_copy [Globs P] (hT : TOk P T) (hγ : γ = true) {t t2 e : Nat} {x y : Operand} {p q : PV} {o off len n sz : Nat} {isnil : Bool} {es xs : List PV} {rn : List Nat} {ti ti2 ei : TI} {td2 : TD} (hx : OpdO γ S x (.osl o off len n)) (hy : OpdO γ S y q)
  (hl : look T t = some ti) (hd : ti.d = .slice e) (hle : look T e = some ei) (hsz : ei.size = sz) (ho : S.obj o = some (.arr sz isnil es)) (hs : Side (n = es.length))
  (hsrc : SrcR S td2 sz q rn xs) (hcs : Side (cellsOkL (cellsOf (xs.take (min xs.length len))) = true)) :
  FStep P ⟨dst, .call { callee := .builtin .copy, args := #[x, y], argTypes := #[t, t2] }, ty, pos, aft, g⟩ S (o :: rn) ⟨iV (min xs.length len : Nat), [(o, .arr sz isnil (putAt es off (xs.take (min xs.length len))))]⟩ := by
 intro fr S' ht hn L a w hR hG Q
 have hp := hx.rep hγ hR (fun t e => ht t (mem_tmps (x := x) (by simp [Op.operands, Call.operands]) t e))
 have hq := hy.rep hγ hR (fun t e => ht t (mem_tmps (x := y) (by simp [Op.operands, Call.operands]) t e))
 have ho' := (hn o (by simp)).trans ho
 obtain ⟨base, cap, hl', hcap, hnil, hes, hcells⟩ := hR.arr ho'
 obtain ⟨s1, s2⟩ := hp.osl_at hl' hs
 have hs' : n = es.length := hs
 obtain ⟨news, hlen, hf1, hf2, hnews, hxs, hfk⟩ := hsrc.sound (P := P) hR (fun n h => hn n (by simp [h])) hq
 generalize hev : a.eval y = yv at hlen hfk
 have hrun : ∀ base c w', a.eval x = .slice base len c → (match base with | none => w' = w | some ad => (storeCells ad (news.take (min xs.length len * sz))).run P w = .ok () w') →
   (execOp a.eval ⟨dst, .call { callee := .builtin .copy, args := #[x, y], argTypes := #[t, t2] }, ty, pos, aft, g⟩).run P w = .ok (.value (goInt (min xs.length len : Nat))) w' := by
  intro base c w' hv hst
  have hb := hfk (min xs.length len) (Nat.min_le_left _ _)
  have hmin : Nat.min xs.length len = min xs.length len := rfl
  cases base with
  | none =>
   subst hst
   simp only [execOp, resolve, Sem.run_bind, Sem.run_pure, Result.andThen_ok, invoke, builtin]
   simp [hv, hev, Builtin.copy_, run_underlying (und_slice hT hl hd), hlen, size_of hT hle, hsz, hmin, hb]
  | some ad =>
   simp only [execOp, resolve, Sem.run_bind, Sem.run_pure, Result.andThen_ok, invoke, builtin]
   simp [hv, hev, Builtin.copy_, run_underlying (und_slice hT hl hd), hlen, size_of hT hle, hsz, hmin, hb, hst]
 have hm1 : min xs.length len ≤ xs.length := Nat.min_le_left _ _
 have hm2 : min xs.length len ≤ len := Nat.min_le_right _ _
 have hcs' : cellsOkL (cellsOf (xs.take (min xs.length len))) = true := hcs
 generalize hm : min xs.length len = m at hm1 hm2 hrun hcs' ⊢
 unfold Oper.wp
 cases base with
 | none =>
  simp only at hcells
  have hm0 : m = 0 := by omega
  subst hm0
  rw [hrun none 0 w (by rw [s2]; congr 1; omega) rfl, Oper.upon_value]
  refine ⟨_, L, rfl, hR.eqv ⟨fun _ => rfl, fun i => ?_⟩, .v _ _⟩
  simp only [St.obj_upd, look_one, List.take_zero, putAt_nil]
  split
  ·rename_i e; subst e; rw [ho']; simp
  ·simp
 | some bo =>
  obtain ⟨b, off0⟩ := bo
  obtain ⟨ad, c, hv, hlc, hpos, _⟩ := s2
  have hib : isnil = false := by simpa using hnil
  subst hib
  by_cases hm0 : m = 0
  ·subst hm0
   rw [hrun _ c w hv (by simp [storeCells]), Oper.upon_value]
   refine ⟨_, L, rfl, hR.eqv ⟨fun _ => rfl, fun i => ?_⟩, .v _ _⟩
   simp only [St.obj_upd, look_one, List.take_zero, putAt_nil]
   split
   ·rename_i e; subst e; rw [ho']; simp
   ·simp
  ·have had := hpos (by omega)
   subst had
   have hxs2 : ∀ e ∈ xs.take m, e.cells.length = sz := fun e he => hxs e (List.mem_of_mem_take he)
   have hn2 : RepL w (fr.F L) L (cellsOf (xs.take m)) (news.take (m * sz)) := by rw [cellsOf_take hxs]; exact repL_take _ hnews
   have hone := repL_one hn2 hcs'
   have hml : (xs.take m).length = m := by rw [List.length_take, Nat.min_eq_left hm1]
   have hnl : (news.take (m * sz)).length = m * sz := by rw [← repL_length hn2, cellsOf_length hxs2, hml]
   have hin : off + m ≤ es.length := by omega
   have hfit : off * sz + m * sz ≤ cap * sz := by rw [← Nat.add_mul]; exact Nat.mul_le_mul_right _ (by omega)
   have hc : ∀ j, j < (news.take (m * sz)).length → ∃ x, w.cell? ⟨b, off0 + off * sz + j, none⟩ = some x ∧ w.frozen? ⟨b, off0 + off * sz + j, none⟩ = false := fun j hj => by
    have := hcells.2 (off * sz + j) (by omega)
    simpa [Nat.add_assoc] using this
   have hst := run_storeCells_cells (P := P) b (off0 + off * sz) (news.take (m * sz)) 0 w (fun j hj => by obtain ⟨x, hx, _⟩ := hc j hj; simp [hx]) (fun j hj => by obtain ⟨x, _, hx⟩ := hc j hj; simpa using hx) hone
   rw [Nat.add_zero] at hst
   rw [hrun _ c _ hv hst, Oper.upon_value]
   have hW := R.putRows hR (xs := xs.take m) (news := news.take (m * sz)) (k := off) hl' hcap hes hcells (by rw [hml]; exact hin) hxs2 hn2
   exact ⟨_, _, rfl, hW, .v _ _⟩
def deadE (sz : Nat) : PV := .agg (List.replicate sz .dead)
theorem repL_dead {F : Nat → Prop} : ∀ (vs : List Value) (ps : List PV), ps.length = vs.length → (∀ p ∈ ps, p = .dead) → RepL w F L ps vs
 | [], [], _, _ => .nil _
 | [], _ :: _, h, _ => by simp at h
 | _ :: _, [], h, _ => by simp at h
 | v :: vs, p :: ps, h, hp => by
  have := hp p (by simp)
  subst this
  exact .cons (.dead _ _) (repL_dead vs ps (by simpa using h) (fun q hq => hp q (by simp [hq])))
end
end Go.Sym
namespace Go.Sym
open Go.RowKit
section
variable {P : Program} {T : Tbl} {fr : Fr} {S S' : St} {L : LMap} {a : Act} {w : World} {γ : Bool}
variable {ty : Nat} {pos : String} {aft : Array Edge} {g : Option (Nat × Bool)} {dst : Option Nat}
theorem R.arrc {o sz c : Nat} {isnil : Bool} {es : List PV} (h : R fr S L a w) (ho : S.obj o = some (.arrc sz isnil es c)) : ∃ base, L o = some (.arr base es.length c sz) ∧ es.length ≤ c ∧ isnil = base.isNone ∧ (∀ e ∈ es, e.cells.length = sz) ∧
  match base with
  | none => c = 0
  | some (b, off) => CellsAt w (fr.F L) L (cellsOf es) b off ∧ ∀ j, j < c * sz → ∃ x, w.cell? ⟨b, off + j, none⟩ = some x ∧ w.frozen? ⟨b, off + j, none⟩ = false := by
 obtain ⟨l, h1, h2⟩ := h.mem.objs o _ ho
 cases l with
 | arr base n cap sz' => obtain ⟨rfl, rfl, rfl, h3, h4, h5, h6⟩ := h2; exact ⟨base, h1, h3, h4, h5, h6⟩
 | box => exact h2.elim
 | gone => exact h2.elim
 | map => exact h2.elim
theorem run_sliceBoundsX (len cap : Nat) {lo : Option Operand} {hi : Operand} {lo' : Option Int} {k : IntKind} {i : Int} (hγ : γ = true) (h1 : OptI γ S lo lo') (h2 : OpdO γ S hi (.v (.int k i))) (hR : R fr S' L a w)
  (hto : ∀ x, lo = some x → ∀ t, x = .tmp t → S'.get t = S.get t) (hti : ∀ t, hi = .tmp t → S'.get t = S.get t) (hb : boundsOk cap lo' (some i)) :
  (Instr.sliceBounds true len cap (lo.map a.eval) (some (a.eval hi)) none).run P w = .ok (loOf lo', i.toNat, cap) w := by
 obtain ⟨hb1, hb2⟩ := hb
 have e2 := (h2.rep hγ hR hti).inv_v
 have h4 := hb1 _ rfl
 have h5 := run_sliceBound (P := P) (w := w) (y := cap) (code := .sliceAcap) e2 ⟨h4.1, by omega⟩
 cases h1 with
 | none =>
  simp only [Instr.sliceBounds, Option.map_none, Sem.run_bind, Sem.run_pure, Result.andThen_ok, if_true, h5]
  rfl
 | some hx =>
  have e1 := (hx.rep hγ hR (hto _ rfl)).inv_v
  have h3 := hb2 _ rfl
  simp only [hiOf] at h3
  rename_i _ _ j
  have h6 := run_sliceBound (P := P) (w := w) (y := i.toNat) (code := .sliceB) e1 ⟨h3.1, by omega⟩
  simp only [Instr.sliceBounds, Option.map_some, Sem.run_bind, Sem.run_pure, Result.andThen_ok, if_true, h5, Option.isSome_none, Bool.false_eq_true, if_false, h6]
  rfl
theorem slice_some (hT : TOk P T) {t e : TypeId} {x hi : Operand} {lo : Option Operand} {b ad len c l i : Nat} {ti ei : TI} (hv : a.eval x = .slice (some ⟨b, ad, none⟩) len c) (hl : look T t = some ti) (htd : ti.d = .slice e) (he : look T e = some ei) (hbs : (Instr.sliceBounds true len c (lo.map a.eval) (some (a.eval hi)) none).run P w = .ok (l, i, c) w) :
  (execOp a.eval ⟨dst, .slice t x lo (some hi) none, ty, pos, aft, g⟩).run P w = .ok (.value (.slice (some ⟨b, if c = l then ad else ad + l * ei.size, none⟩) (i - l) (c - l))) w := by
 simp [execOp, Instr.sliceAt, Instr.slice, hv, run_underlying (und_slice hT hl htd), hbs, elemSize hT he]
 split <;> simp [Addr.add_lit]
theorem slice_sub {L : LMap} {F : Nat → Prop} {o b off0 m cap sz n c l i : Nat} (hl' : L o = some (.arr (some (b, off0)) m cap sz)) (hm : n = m) (hcc : c = cap) (hic : i ≤ m) (hmc : m ≤ cap) (hli : l ≤ i) :
  Rep w F L (.osl o l (i - l) n) (.slice (some ⟨b, if c = l then off0 else off0 + l * sz, none⟩) (i - l) (c - l)) := by
 refine .osl hl' ⟨by omega, fun _ => ⟨by omega, _, _, rfl, by omega, fun hp => ?_, fun h0 => ?_, by omega⟩⟩ ⟨_, _, _, rfl⟩
 ·rw [if_neg (by omega)]
 ·subst h0; simp
theorem Trip.openCap [Globs P] {nt : Nat} {o sz : Nat} {isnil : Bool} {es : List PV} {c : Code} {Q : Exit → St → Prop} (ho : S.obj o = some (.arr sz isnil es)) (h : ∀ cap, es.length ≤ cap → (isnil = true → cap = 0) → Trip P nt (S.upd [(o, .arrc sz isnil es cap)]) c Q) : Trip P nt S c Q := by
 intro fr hnt hG L a w hR
 obtain ⟨base, cap, hl', hcap, hnil, hes, hcells⟩ := hR.arr ho
 refine h cap hcap (fun hi => by rw [hnil] at hi; cases base with | none => exact hcells | some p => simp at hi) fr hnt hG L a w ⟨⟨fun n ob hn => ?_, fun n l hn => ?_, hR.mem.inj, hR.mem.place, hR.mem.kind, hR.mem.parLt, hR.mem.xLt, hR.mem.frame, hR.mem.lext⟩, hR.nt, hR.defers, fun t p hp => hR.vals t p (by simpa using hp)⟩
 ·simp only [St.obj_upd, look_one] at hn
  split at hn
  ·rename_i e; subst e
   simp at hn; subst hn
   exact ⟨_, hl', rfl, rfl, rfl, hcap, hnil, hes, hcells⟩
  ·simp at hn; exact hR.mem.objs n ob hn
 ·simp only [St.obj_upd, look_one]
  split
  ·exact ⟨_, rfl⟩
  ·simpa using hR.mem.dom n l hn
theorem Weak.closeCap {nt : Nat} {o sz c : Nat} {isnil : Bool} {es : List PV} (ho : S.obj o = some (.arrc sz isnil es c)) : Weak nt S (S.upd [(o, .arr sz isnil es)]) := by
 intro fr hnt L a w hR
 obtain ⟨base, hl', hcap, hnil, hes, hcells⟩ := hR.arrc ho
 refine ⟨L, ⟨fun n ob hn => ?_, fun n l hn => ?_, hR.mem.inj, hR.mem.place, hR.mem.kind, hR.mem.parLt, hR.mem.xLt, hR.mem.frame, hR.mem.lext⟩, hR.nt, hR.defers, fun t p hp => hR.vals t p (by simpa using hp)⟩
 ·simp only [St.obj_upd, look_one] at hn
  split at hn
  ·rename_i e; subst e
   simp at hn; subst hn
   exact ⟨_, hl', rfl, rfl, hcap, hnil, hes, hcells⟩
  ·simp at hn; exact hR.mem.objs n ob hn
 ·simp only [St.obj_upd, look_one]
  split
  ·exact ⟨_, rfl⟩
  ·simpa using hR.mem.dom n l hn
theorem F_cap [Globs P] (hT : TOk P T) (hγ : γ = true) {t : TypeId} {x : Operand} {o off len n sz c e : Nat} {isnil : Bool} {es : List PV} {ti : TI} (hx : OpdO γ S x (.osl o off len n)) (hl : look T t = some ti) (htd : ti.d = .slice e) (ho : S.obj o = some (.arrc sz isnil es c)) (hs : Side (n = es.length)) :
  FStep P ⟨dst, .call { callee := .builtin .cap, args := #[x], argTypes := #[t] }, ty, pos, aft, g⟩ S [o] ⟨iV (c - off : Nat), []⟩ := by
 refine FStep.val fun fr S' L a w ht hn hR => ?_
 have hr := hx.rep hγ hR (ht x (by simp [Op.operands, Call.operands]))
 obtain ⟨base, hl', hcap, hnil, _, hcells⟩ := hR.arrc ((hn _ (by simp)).trans ho)
 obtain ⟨s1, s2⟩ := hr.osl_at hl' hs
 have hs' : n = es.length := hs
 have key : ∀ bs len c, a.eval x = .slice bs len c → (execOp a.eval ⟨dst, .call { callee := .builtin .cap, args := #[x], argTypes := #[t] }, ty, pos, aft, g⟩).run P w = .ok (.value (goInt c)) w := fun bs len c hv => by
  simp only [execOp, resolve, Sem.run_bind, Sem.run_pure, Result.andThen_ok, invoke, builtin]
  simp [hv, Builtin.cap_, run_underlying (und_slice hT hl htd)]
 cases base with
 | none =>
  simp only at hcells
  subst hcells
  exact ⟨_, key _ _ _ s2, by simp; exact .v _ _⟩
 | some bo =>
  obtain ⟨b, off0⟩ := bo
  obtain ⟨ad, c', hv, hlc, hpos, hq0, hcc⟩ := s2
  subst hcc
  exact ⟨_, key _ _ _ hv, .v _ _⟩
theorem F_sliceC [Globs P] (hT : TOk P T) (hγ : γ = true) {t e : TypeId} {x : Operand} {lo hi : Option Operand} {lo' hi' : Option Int} {o len n sz c : Nat} {isnil : Bool} {es : List PV} {ti ei : TI} (hx : OpdO γ S x (.osl o 0 len n)) (h1 : OptI γ S lo lo') (h2 : OptI γ S hi hi') (hl : look T t = some ti) (htd : ti.d = .slice e)
  (ho : S.obj o = some (.arrc sz isnil es c)) (he : look T e = some ei) (hes' : ei.size = sz) (hs : Side (n = es.length)) (hb : Side (boundsOk len lo' hi')) : FStep P ⟨dst, .slice t x lo hi none, ty, pos, aft, g⟩ S [o] ⟨.osl o (loOf lo') (hiOf len hi' - loOf lo') n, []⟩ := by
 refine FStep.val fun fr S' L a w ht hn hR => ?_
 have hr := hx.rep hγ hR (ht x (by simp [Op.operands]))
 have hto : ∀ y, lo = some y → ∀ t, y = .tmp t → S'.get t = S.get t := fun y hy => ht y (by subst hy; simp [Op.operands])
 have hti : ∀ y, hi = some y → ∀ t, y = .tmp t → S'.get t = S.get t := fun y hy => ht y (by subst hy; simp [Op.operands])
 obtain ⟨base, hl', hcap, hnil, _, hcells⟩ := hR.arrc ((hn _ (by simp)).trans ho)
 obtain ⟨s1, s2⟩ := hr.osl_at hl' hs
 have hs' : n = es.length := hs
 have hb' : boundsOk len lo' hi' := hb
 have hlen : hiOf len hi' ≤ len := by
  unfold hiOf; cases hi' with
  | none => exact Nat.le_refl _
  | some i => have := hb'.1 i rfl; simp only; omega
 have hle : loOf lo' ≤ hiOf len hi' := by
  unfold loOf; cases lo' with
  | none => exact Nat.zero_le _
  | some i => exact (hb'.2 i rfl).2
 cases base with
 | none =>
  simp only at hcells
  have h0 : len = 0 := by omega
  subst h0
  have hbs := run_sliceBounds (P := P) true 0 0 0 hγ h1 h2 rfl (Nat.le_refl _) hR hto hti hb
  have e1 : hiOf 0 hi' = 0 := by omega
  have e2 : loOf lo' = 0 := by omega
  rw [e1, e2] at hbs ⊢
  refine ⟨.slice none 0 0, ?_, .osl hl' ⟨by omega, fun _ => ⟨by omega, rfl⟩⟩ ⟨_, _, _, rfl⟩⟩
  simp [execOp, Instr.sliceAt, Instr.slice, s2, run_underlying (und_slice hT hl htd), hbs, elemSize hT he]
 | some bo =>
  obtain ⟨b, off0⟩ := bo
  obtain ⟨ad, c', hv, hlc, hpos, hq0, hcc⟩ := s2
  obtain rfl := hq0 rfl
  have hbs := run_sliceBounds (P := P) true len c' len hγ h1 h2 rfl hlc hR hto hti hb
  refine ⟨.slice (some ⟨b, if c' = loOf lo' then ad else ad + loOf lo' * ei.size, none⟩) (hiOf len hi' - loOf lo') (c' - loOf lo'), ?_, ?_⟩
  ·simp [execOp, Instr.sliceAt, Instr.slice, hv, run_underlying (und_slice hT hl htd), hbs, elemSize hT he]
   split <;> simp [Addr.add_lit]
  ·rw [hes']
   exact slice_sub hl' hs (by omega) (by omega) hcap hle
theorem F_sliceUp [Globs P] (hT : TOk P T) (hγ : γ = true) {t e : TypeId} {x hi : Operand} {k : IntKind} {i : Int} {o len n sz c : Nat} {isnil : Bool} {es : List PV} {ti ei : TI} (hx : OpdO γ S x (.osl o 0 len n)) (h2 : OpdO γ S hi (.v (.int k i))) (hl : look T t = some ti) (htd : ti.d = .slice e)
  (ho : S.obj o = some (.arrc sz isnil es c)) (he : look T e = some ei) (hes' : ei.size = sz) (hs : Side (n = es.length)) (hb : Side ((n : Int) < i ∧ i ≤ c)) : FStep P ⟨dst, .slice t x none (some hi) none, ty, pos, aft, g⟩ S [o] ⟨.osl o 0 i.toNat i.toNat, [(o, .arr sz isnil (es ++ List.replicate (i.toNat - n) (deadE sz)))]⟩ := by
 intro fr S' ht hn L a w hR hG Q
 have hr := hx.rep hγ hR (fun t e => ht t (mem_tmps (x := x) (by simp [Op.operands]) t e))
 have hti : ∀ t, hi = .tmp t → S'.get t = S.get t := fun t e => ht t (mem_tmps (x := hi) (by simp [Op.operands]) t e)
 have ho' := (hn o (by simp)).trans ho
 obtain ⟨base, hl', hcap, hnil, hes, hcells⟩ := hR.arrc ho'
 obtain ⟨s1, s2⟩ := hr.osl_at hl' hs
 have hs' : n = es.length := hs
 obtain ⟨b1, b2⟩ : (n : Int) < i ∧ i ≤ c := hb
 cases base with
 | none =>
  simp only at hcells
  have hc0 : c = 0 := hcells
  omega
 | some bo =>
  obtain ⟨b, off0⟩ := bo
  obtain ⟨ad, c', hv, hlc, hpos, hq0, hcc⟩ := s2
  obtain rfl := hq0 rfl
  rw [Nat.sub_zero] at hcc
  subst hcc
  have hib : isnil = false := by simpa using hnil
  subst hib
  have hbs := run_sliceBoundsX (P := P) (lo := none) (lo' := none) len c' hγ .none h2 hR (fun y hy => by cases hy) hti ⟨fun j hj => by cases hj; omega, fun j hj => by cases hj⟩
  unfold Oper.wp
  rw [slice_some (lo := none) hT hv hl htd he hbs, Oper.upon_value]
  have hnl : (es ++ List.replicate (i.toNat - n) (deadE sz)).length = i.toNat := by simp; omega
  have hW := R.step' hR o (.arr sz false (es ++ List.replicate (i.toNat - n) (deadE sz))) (.arr (some (b, ad)) i.toNat c' sz) hR.mem.frame (Nat.le_refl _) (fun _ _ _ => rfl) (fun l0 h => by
    rw [hl'] at h; cases h
    exact ⟨fun off x _ => trivial, fun off' len k x hk => ⟨by have := hk.1; omega, fun h => by have := hk.1; omega⟩, fun i' off' k x hk => ⟨by have := hk.1; omega, fun h => by have := hk.1; omega⟩⟩)
   (fun b' hb2 => .inl ⟨_, hl', by simpa [Loc.blk] using hb2, rfl⟩) (fun p hp2 => (hR.mem.kind o _ p hl' (by simpa [Loc.range] using hp2)).to rfl (fun h => h)) (fun hext hlx => ⟨rfl, hnl.symm, by omega, rfl, fun e he => ?_, fun j p hj => ?_, hcells.2⟩)
  ·refine ⟨_, _, rfl, hW.1, ?_⟩
   have := oslFull (w := w) (F := fr.F (L.set o (.arr (some (b, ad)) i.toNat c' sz))) (k := o) (L := L.set o (.arr (some (b, ad)) i.toNat c' sz)) (b := b) (off := ad) (n := i.toNat) (cap := c') (sz := sz) (by simp [LMap.set]) (by omega)
   simpa [loOf] using this
  ·rcases List.mem_append.1 he with he | he
   ·exact hes e he
   ·rw [List.eq_of_mem_replicate he]; simp [deadE, PV.cells]
  ·rw [cellsOf_append, List.getElem?_append] at hj
   split at hj
   ·obtain ⟨x, k1, k2, k3⟩ := hcells.1 j p hj
    exact ⟨x, k1, k2, k3.mono hext hlx⟩
   ·rename_i hge
    have hjl := (List.getElem?_eq_some_iff.1 hj).1
    have hp : p = .dead := by
     have hmem := List.mem_of_getElem? hj
     simp only [cellsOf, List.mem_flatMap] at hmem
     obtain ⟨e, he, hpe⟩ := hmem
     rw [List.eq_of_mem_replicate he] at hpe
     exact List.eq_of_mem_replicate hpe
    subst hp
    have hl1 : (cellsOf es).length = es.length * sz := cellsOf_length hes
    have hl2 : (cellsOf (List.replicate (i.toNat - n) (deadE sz))).length = (i.toNat - n) * sz := by
     rw [cellsOf_length (sz := sz) (fun e he => by rw [List.eq_of_mem_replicate he]; simp [deadE, PV.cells])]; simp
    have hfit : es.length * sz + (i.toNat - n) * sz ≤ c' * sz := by rw [← Nat.add_mul]; exact Nat.mul_le_mul_right _ (by omega)
    obtain ⟨x, k1, k2⟩ := hcells.2 j (by omega)
    exact ⟨x, k1, k2, .dead _ _⟩
end
end Go.Sym
