/- A part of the proof: SymS, SymT, SymU. -/
import Derived.Test.YteailifhgfijgaaGreatDoorPart13
import Derived.Lib.Overlaps
import Derived.Laws.Externs
set_option linter.unusedVariables false
set_option linter.unusedSimpArgs false
namespace Go.Sym
open Go.RowKit
section
variable {P : Program} {T : Tbl} {fr : Fr} {S S' : St} {L : LMap} {a : Act} {w : World} {γ : Bool}
variable {ty : Nat} {pos : String} {aft : Array Edge} {g : Option (Nat × Bool)} {dst : Option Nat}
theorem F_max [Globs P] (hγ : γ = true) {x y : Operand} {ts : Array TypeId} {k : IntKind} {i j : Int} (hx : OpdO γ S x (.v (.int k i))) (hy : OpdO γ S y (.v (.int k j))) :
  FStep P ⟨dst, .call { callee := .builtin .max, args := #[x, y], argTypes := ts }, ty, pos, aft, g⟩ S [] ⟨.v (.int k (max i j)), []⟩ := by
 refine FStep.val fun fr S' L a w ht hn hR => ?_
 have h1 := (hx.rep hγ hR (ht x (by simp [Op.operands, Call.operands]))).inv_v
 have h2 := (hy.rep hγ hR (ht y (by simp [Op.operands, Call.operands]))).inv_v
 have e : (if j > i then j else i) = max i j := by split <;> omega
 refine ⟨_, ?_, .v _ _⟩
 simp only [execOp, resolve, Sem.run_bind, Sem.run_pure, Result.andThen_ok, invoke, builtin]
 simp [h1, h2, Builtin.max_, Builtin.max2, ← e]
def putAt (es : List PV) (k : Nat) (xs : List PV) : List PV := es.take k ++ (xs ++ es.drop (k + xs.length))
theorem putAt_length {es xs : List PV} {k : Nat} (h : k + xs.length ≤ es.length) : (putAt es k xs).length = es.length := by
 simp only [putAt, List.length_append, List.length_take, List.length_drop]; omega
theorem putAt_mem {es xs : List PV} {k : Nat} {e : PV} (h : e ∈ putAt es k xs) : e ∈ es ∨ e ∈ xs := by
 simp only [putAt, List.mem_append] at h
 rcases h with h | h | h
 ·exact .inl (List.mem_of_mem_take h)
 ·exact .inr h
 ·exact .inl (List.mem_of_mem_drop h)
theorem putAt_nil (es : List PV) (k : Nat) : putAt es k [] = es := by simp [putAt]
theorem R.putRows (hR : R fr S L a w) {o sz cap b off : Nat} {es xs : List PV} {news : List Value} {k : Nat} (hl : L o = some (.arr (some (b, off)) es.length cap sz)) (hcap : es.length ≤ cap) (hes : ∀ e ∈ es, e.cells.length = sz)
  (hcells : CellsAt w (fr.F L) L (cellsOf es) b off ∧ ∀ j, j < cap * sz → ∃ x, w.cell? ⟨b, off + j, none⟩ = some x ∧ w.frozen? ⟨b, off + j, none⟩ = false) (hk : k + xs.length ≤ es.length) (hxs : ∀ e ∈ xs, e.cells.length = sz) (hnews : RepL w (fr.F L) L (cellsOf xs) news) :
  R fr (S.upd [(o, .arr sz false (putAt es k xs))]) (L.set o (.arr (some (b, off)) es.length cap sz)) a (w.setCells b (off + k * sz) news) := by
 have hnl : news.length = xs.length * sz := by rw [← cellsOf_length hxs, repL_length hnews]
 have hfit : k * sz + news.length ≤ es.length * sz := by rw [hnl, ← Nat.add_mul]; exact Nat.mul_le_mul_right _ hk
 have hfit2 : es.length * sz ≤ cap * sz := Nat.mul_le_mul_right _ hcap
 have hc : ∀ j, j < news.length → ∃ x, w.cell? ⟨b, off + k * sz + j, none⟩ = some x ∧ w.frozen? ⟨b, off + k * sz + j, none⟩ = false := fun j hj => by
  have := hcells.2 (k * sz + j) (by omega)
  simpa [Nat.add_assoc] using this
 refine (R.write hR (o := o) (b := b) (lo := off) (n := cap * sz) (q := off + k * sz) (l := .arr (some (b, off)) es.length cap sz) (l' := .arr (some (b, off)) es.length cap sz)
  (ob' := .arr sz false (putAt es k xs)) (vs := news) hl rfl rfl ⟨by omega, by omega⟩ (Loc.le_refl _) rfl rfl id (fun hext hlx => ?_)).1
 have hcsA := fun j => cells_setCells (w := w) (b := b) (q := off + k * sz) (vs := news) (fun j hj => by obtain ⟨x, hx, _⟩ := hc j hj; simp [hx]) (off + j)
 refine ⟨rfl, (putAt_length hk).symm, hcap, rfl, fun x hx => (putAt_mem hx).elim (hes x) (hxs x), fun j c' hj => ?_, fun j hj => ?_⟩
 ·rw [hcsA j, World.frozen?_setCells]
  have hlt : (cellsOf (es.take k)).length = k * sz := by rw [cellsOf_length (fun e he => hes e (List.mem_of_mem_take he))]; rw [List.length_take, Nat.min_eq_left (by omega)]
  have hlx2 : (cellsOf xs).length = news.length := by rw [cellsOf_length hxs, hnl]
  simp only [putAt, cellsOf_append] at hj
  rw [List.getElem?_append, hlt] at hj
  split at hj
  ·rename_i h1
   rw [if_neg (by omega)]
   rw [cellsOf_take hes, List.getElem?_take, if_pos h1] at hj
   obtain ⟨x, k1, k2, k3⟩ := hcells.1 j c' hj
   exact ⟨x, k1, k2, k3.mono hext hlx⟩
  ·rename_i h1
   rw [List.getElem?_append, hlx2] at hj
   split at hj
   ·rename_i h2
    obtain ⟨x, k1, k2⟩ := repL_get hnews _ _ hj
    obtain ⟨_, _, k4⟩ := hcells.2 j (by omega)
    exact ⟨x, by rw [if_pos ⟨by omega, by omega⟩, show off + j - (off + k * sz) = j - k * sz by omega]; exact k1, k4, k2.mono hext hlx⟩
   ·rename_i h2
    rw [if_neg (by omega)]
    rw [cellsOf_drop hes, List.getElem?_drop, Nat.add_mul, ← hnl, show k * sz + news.length + (j - k * sz - news.length) = j by omega] at hj
    obtain ⟨x, k1, k2, k3⟩ := hcells.1 j c' hj
    exact ⟨x, k1, k2, k3.mono hext hlx⟩
 ·rw [hcsA j, World.frozen?_setCells]
  obtain ⟨x, k1, k2⟩ := hcells.2 j hj
  split
  ·exact ⟨news[off + j - (off + k * sz)]'(by omega), List.getElem?_eq_getElem _, k2⟩
  ·exact ⟨x, k1, k2⟩
theorem run_clear {t e n sz : Nat} {base : Option Addr} {cap : Nat} {ei : TypeInfo} {z : Value} (ht : P.underlying t = some (.slice e)) (hi : P.info? e = some ei) (hz : ei.zero = some z) {w' : World}
  (hst : match base with | none => w' = w | some a => (storeCells a (Builtin.zeroCells z.cells n).toList).run P w = .ok () w') (hsz : z.cells.size = sz) :
  (Builtin.clear_ #[t] ty #[.slice base n cap]).run P w = .ok (.tuple #[]) w' := by
 subst hsz
 cases base with
 | none => subst hst; simp [Builtin.clear_, run_underlying ht]
 | some ad =>
  cases n with
  | zero =>
   have : w' = w := by simpa [Builtin.zeroCells, storeCells] using hst.symm
   subst this
   simp [Builtin.clear_, run_underlying ht]
  | succ n => simp only at hst; simp [Builtin.clear_, run_underlying ht, zeroValue, typeInfo, hi, hz, hst]
def deadE (sz : Nat) : PV := .agg (List.replicate sz .dead)
theorem repL_dead {F : Nat → Prop} : ∀ (vs : List Value) (ps : List PV), ps.length = vs.length → (∀ p ∈ ps, p = .dead) → RepL w F L ps vs
 | [], [], _, _ => .nil _
 | [], _ :: _, h, _ => by simp at h
 | _ :: _, [], h, _ => by simp at h
 | v :: vs, p :: ps, h, hp => by
  have := hp p (by simp)
  subst this
  exact .cons (.dead _ _) (repL_dead vs ps (by simpa using h) (fun q hq => hp q (by simp [hq])))
theorem zeroCells_mem {z : Array Value} {n : Nat} {v : Value} (h : v ∈ (Builtin.zeroCells z n).toList) : v ∈ z.toList := by
 simp only [Builtin.zeroCells, Array.toList_map, List.mem_map, Array.mem_toList_iff, Array.mem_range] at h
 obtain ⟨i, hi, rfl⟩ := h
 have hz : 0 < z.size := by
  rcases Nat.eq_zero_or_pos z.size with h0 | h0
  ·rw [h0, Nat.mul_zero] at hi; omega
  ·exact h0
 have := Nat.mod_lt i hz
 rw [getElem!_pos z (i % z.size) this]
 simp
theorem F_clear [Globs P] (hT : TOk P T) (hγ : γ = true) {t e : Nat} {x : Operand} {o off len n sz : Nat} {isnil : Bool} {es : List PV} {ti ei : TI} {zs : List Value} (hx : OpdO γ S x (.osl o off len n))
  (hl : look T t = some ti) (hd : ti.d = .slice e) (hle : look T e = some ei) (hsz : ei.size = sz) (hz : ei.zero = some zs) (hzs : Nat.beq zs.length sz = true) (hz1 : (zs.all fun v => v.oneCell') = true) (ho : S.obj o = some (.arr sz isnil es)) (hs : Side (n = es.length)) :
  FStep P ⟨dst, .call { callee := .builtin .clear, args := #[x], argTypes := #[t] }, ty, pos, aft, g⟩ S [o] ⟨.tup [], [(o, .arr sz isnil (putAt es off (List.replicate len (deadE sz))))]⟩ := by
 intro fr S' ht hn L a w hR hG Q
 have hp := hx.rep hγ hR (fun t e => ht t (mem_tmps (x := x) (by simp [Op.operands, Call.operands]) t e))
 have ho' := (hn o (by simp)).trans ho
 obtain ⟨base, cap, hl', hcap, hnil, hes, hcells⟩ := hR.arr ho'
 obtain ⟨s1, s2⟩ := hp.osl_at hl' hs
 have hs' : n = es.length := hs
 have hzs' := Nat.eq_of_beq_eq_true hzs
 obtain ⟨z, hzr, hzc, info, hi, hiz, his, hib⟩ := zero_of hT hle hz w
 have hu := und_slice hT hl hd
 have hzsz : z.cells.size = sz := by rw [← Array.length_toList, hzc, hzs']
 have key : ∀ v w', a.eval x = v → (Builtin.clear_ #[t] ty #[v]).run P w = .ok (.tuple #[]) w' →
   (execOp a.eval ⟨dst, .call { callee := .builtin .clear, args := #[x], argTypes := #[t] }, ty, pos, aft, g⟩).run P w = .ok (.value (.tuple #[])) w' := by
  intro v w' hv hr
  simp only [execOp, resolve, Sem.run_bind, Sem.run_pure, Result.andThen_ok, invoke, builtin]
  simp [hv, hr]
 have hxs : ∀ e ∈ List.replicate len (deadE sz), e.cells.length = sz := fun e he => by
  rw [List.eq_of_mem_replicate he]; simp [deadE, PV.cells]
 generalize hnews : (Builtin.zeroCells z.cells len).toList = news
 have hnl : news.length = len * sz := by rw [← hnews]; simp [Builtin.zeroCells, hzsz]
 have hone : ∀ v ∈ news, v.oneCell' = true := fun v hv => by
  rw [← hnews] at hv
  have := zeroCells_mem hv
  rw [hzc] at this
  exact List.all_eq_true.1 hz1 v this
 have hnr : RepL w (fr.F L) L (cellsOf (List.replicate len (deadE sz))) news := repL_dead _ _ (by rw [cellsOf_length hxs, hnl]; simp) (fun p hp => by
  simp only [cellsOf, List.mem_flatMap] at hp
  obtain ⟨e, he, hpe⟩ := hp
  rw [List.eq_of_mem_replicate he] at hpe
  exact List.eq_of_mem_replicate hpe)
 unfold Oper.wp
 cases base with
 | none =>
  simp only at hcells
  have hl0 : len = 0 := by omega
  subst hl0
  rw [key _ _ s2 (run_clear hu hi hiz rfl hzsz), Oper.upon_value]
  refine ⟨_, L, rfl, hR.eqv ⟨fun _ => rfl, fun i => ?_⟩, .tup (.nil _)⟩
  simp only [St.obj_upd, look_one, List.replicate_zero, putAt_nil]
  split
  ·rename_i e; subst e; rw [ho']; simp
  ·simp
 | some bo =>
  obtain ⟨b, off0⟩ := bo
  obtain ⟨ad, c, hv, hlc, hpos, hq0, hcc⟩ := s2
  have hib : isnil = false := by simpa using hnil
  subst hib
  by_cases hl0 : len = 0
  ·subst hl0
   have hn0 : news = [] := List.eq_nil_of_length_eq_zero (by simpa using hnl)
   rw [key _ _ hv (run_clear hu hi hiz (w' := w) (by simp only [hnews, hn0]; rfl) hzsz), Oper.upon_value]
   refine ⟨_, L, rfl, hR.eqv ⟨fun _ => rfl, fun i => ?_⟩, .tup (.nil _)⟩
   simp only [St.obj_upd, look_one, List.replicate_zero, putAt_nil]
   split
   ·rename_i e; subst e; rw [ho']; simp
   ·simp
  ·obtain rfl := hpos (by omega)
   have hfit : off * sz + news.length ≤ cap * sz := by rw [hnl, ← Nat.add_mul]; exact Nat.mul_le_mul_right _ (by omega)
   have hc : ∀ j, j < news.length → ∃ x, w.cell? ⟨b, off0 + off * sz + j, none⟩ = some x ∧ w.frozen? ⟨b, off0 + off * sz + j, none⟩ = false := fun j hj => by
    have := hcells.2 (off * sz + j) (by omega)
    simpa [Nat.add_assoc] using this
   have hst := run_storeCells_cells (P := P) b (off0 + off * sz) news 0 w (fun j hj => by obtain ⟨x, hx, _⟩ := hc j hj; simp [hx]) (fun j hj => by obtain ⟨x, _, hx⟩ := hc j hj; simpa using hx) hone
   rw [Nat.add_zero] at hst
   rw [key _ _ hv (run_clear hu hi hiz (by simp only [hnews]; exact hst) hzsz), Oper.upon_value]
   have hW := R.putRows hR (xs := List.replicate len (deadE sz)) (news := news) (k := off) hl' hcap hes hcells (by rw [List.length_replicate]; omega) hxs hnr
   exact ⟨_, _, rfl, hW, .tup (.nil _)⟩
end
end Go.Sym
namespace Go.Sym
open Go.RowKit
section
variable {P : Program} {T : Tbl} {fr : Fr} {S S' : St} {L : LMap} {a : Act} {w : World} {γ : Bool}
variable {ty : Nat} {pos : String} {aft : Array Edge} {g : Option (Nat × Bool)} {dst : Option Nat}
theorem R.arrc {o sz c : Nat} {isnil : Bool} {es : List PV} (h : R fr S L a w) (ho : S.obj o = some (.arrc sz isnil es c)) : ∃ base, L o = some (.arr base es.length c sz) ∧ es.length ≤ c ∧ isnil = base.isNone ∧ (∀ e ∈ es, e.cells.length = sz) ∧
  match base with
  | none => c = 0
  | some (b, off) => CellsAt w (fr.F L) L (cellsOf es) b off ∧ ∀ j, j < c * sz → ∃ x, w.cell? ⟨b, off + j, none⟩ = some x ∧ w.frozen? ⟨b, off + j, none⟩ = false := by
 obtain ⟨l, h1, h2⟩ := h.mem.objs o _ ho
 cases l with
 | arr base n cap sz' => obtain ⟨rfl, rfl, rfl, h3, h4, h5, h6⟩ := h2; exact ⟨base, h1, h3, h4, h5, h6⟩
 | box => exact h2.elim
 | gone => exact h2.elim
 | map => exact h2.elim
theorem slice_sub {L : LMap} {F : Nat → Prop} {o b off0 m cap sz n c l i : Nat} (hl' : L o = some (.arr (some (b, off0)) m cap sz)) (hm : n = m) (hcc : c = cap) (hic : i ≤ m) (hmc : m ≤ cap) (hli : l ≤ i) :
  Rep w F L (.osl o l (i - l) n) (.slice (some ⟨b, if c = l then off0 else off0 + l * sz, none⟩) (i - l) (c - l)) := by
 refine .osl hl' ⟨by omega, fun _ => ⟨by omega, _, _, rfl, by omega, fun hp => ?_, fun h0 => ?_, by omega⟩⟩ ⟨_, _, _, rfl⟩
 ·rw [if_neg (by omega)]
 ·subst h0; simp
theorem Trip.openCap [Globs P] {nt : Nat} {o sz : Nat} {isnil : Bool} {es : List PV} {c : Code} {Q : Exit → St → Prop} (ho : S.obj o = some (.arr sz isnil es)) (h : ∀ cap, es.length ≤ cap → (isnil = true → cap = 0) → Trip P nt (S.upd [(o, .arrc sz isnil es cap)]) c Q) : Trip P nt S c Q := by
 intro fr hnt hG L a w hR
 obtain ⟨base, cap, hl', hcap, hnil, hes, hcells⟩ := hR.arr ho
 refine h cap hcap (fun hi => by rw [hnil] at hi; cases base with | none => exact hcells | some p => simp at hi) fr hnt hG L a w ⟨⟨fun n ob hn => ?_, fun n l hn => ?_, hR.mem.inj, hR.mem.place, hR.mem.kind, hR.mem.parLt, hR.mem.xLt, hR.mem.frame, hR.mem.lext⟩, hR.nt, hR.defers, fun t p hp => hR.vals t p (by simpa using hp)⟩
 ·simp only [St.obj_upd, look_one] at hn
  split at hn
  ·rename_i e; subst e
   simp at hn; subst hn
   exact ⟨_, hl', rfl, rfl, rfl, hcap, hnil, hes, hcells⟩
  ·simp at hn; exact hR.mem.objs n ob hn
 ·simp only [St.obj_upd, look_one]
  split
  ·exact ⟨_, rfl⟩
  ·simpa using hR.mem.dom n l hn
theorem F_cap [Globs P] (hT : TOk P T) (hγ : γ = true) {t : TypeId} {x : Operand} {o off len n sz c e : Nat} {isnil : Bool} {es : List PV} {ti : TI} (hx : OpdO γ S x (.osl o off len n)) (hl : look T t = some ti) (htd : ti.d = .slice e) (ho : S.obj o = some (.arrc sz isnil es c)) (hs : Side (n = es.length)) :
  FStep P ⟨dst, .call { callee := .builtin .cap, args := #[x], argTypes := #[t] }, ty, pos, aft, g⟩ S [o] ⟨iV (c - off : Nat), []⟩ := by
 refine FStep.val fun fr S' L a w ht hn hR => ?_
 have hr := hx.rep hγ hR (ht x (by simp [Op.operands, Call.operands]))
 obtain ⟨base, hl', hcap, hnil, _, hcells⟩ := hR.arrc ((hn _ (by simp)).trans ho)
 obtain ⟨s1, s2⟩ := hr.osl_at hl' hs
 have hs' : n = es.length := hs
 have key : ∀ bs len c, a.eval x = .slice bs len c → (execOp a.eval ⟨dst, .call { callee := .builtin .cap, args := #[x], argTypes := #[t] }, ty, pos, aft, g⟩).run P w = .ok (.value (goInt c)) w := fun bs len c hv => by
  simp only [execOp, resolve, Sem.run_bind, Sem.run_pure, Result.andThen_ok, invoke, builtin]
  simp [hv, Builtin.cap_, run_underlying (und_slice hT hl htd)]
 cases base with
 | none =>
  simp only at hcells
  subst hcells
  exact ⟨_, key _ _ _ s2, by simp; exact .v _ _⟩
 | some bo =>
  obtain ⟨b, off0⟩ := bo
  obtain ⟨ad, c', hv, hlc, hpos, hq0, hcc⟩ := s2
  subst hcc
  exact ⟨_, key _ _ _ hv, .v _ _⟩
theorem F_sliceC [Globs P] (hT : TOk P T) (hγ : γ = true) {t e : TypeId} {x : Operand} {lo hi : Option Operand} {lo' hi' : Option Int} {o len n sz c : Nat} {isnil : Bool} {es : List PV} {ti ei : TI} (hx : OpdO γ S x (.osl o 0 len n)) (h1 : OptI γ S lo lo') (h2 : OptI γ S hi hi') (hl : look T t = some ti) (htd : ti.d = .slice e)
  (ho : S.obj o = some (.arrc sz isnil es c)) (he : look T e = some ei) (hes' : ei.size = sz) (hs : Side (n = es.length)) (hb : Side (boundsOk len lo' hi')) : FStep P ⟨dst, .slice t x lo hi none, ty, pos, aft, g⟩ S [o] ⟨.osl o (loOf lo') (hiOf len hi' - loOf lo') n, []⟩ := by
 refine FStep.val fun fr S' L a w ht hn hR => ?_
 have hr := hx.rep hγ hR (ht x (by simp [Op.operands]))
 have hto : ∀ y, lo = some y → ∀ t, y = .tmp t → S'.get t = S.get t := fun y hy => ht y (by subst hy; simp [Op.operands])
 have hti : ∀ y, hi = some y → ∀ t, y = .tmp t → S'.get t = S.get t := fun y hy => ht y (by subst hy; simp [Op.operands])
 obtain ⟨base, hl', hcap, hnil, _, hcells⟩ := hR.arrc ((hn _ (by simp)).trans ho)
 obtain ⟨s1, s2⟩ := hr.osl_at hl' hs
 have hs' : n = es.length := hs
 have hb' : boundsOk len lo' hi' := hb
 have hlen : hiOf len hi' ≤ len := by
  unfold hiOf; cases hi' with
  | none => exact Nat.le_refl _
  | some i => have := hb'.1 i rfl; simp only; omega
 have hle : loOf lo' ≤ hiOf len hi' := by
  unfold loOf; cases lo' with
  | none => exact Nat.zero_le _
  | some i => exact (hb'.2 i rfl).2
 cases base with
 | none =>
  simp only at hcells
  have h0 : len = 0 := by omega
  subst h0
  have hbs := run_sliceBounds (P := P) true 0 0 0 hγ h1 h2 rfl (Nat.le_refl _) hR hto hti hb
  have e1 : hiOf 0 hi' = 0 := by omega
  have e2 : loOf lo' = 0 := by omega
  rw [e1, e2] at hbs ⊢
  refine ⟨.slice none 0 0, ?_, .osl hl' ⟨by omega, fun _ => ⟨by omega, rfl⟩⟩ ⟨_, _, _, rfl⟩⟩
  simp [execOp, Instr.sliceAt, Instr.slice, s2, run_underlying (und_slice hT hl htd), hbs, elemSize hT he]
 | some bo =>
  obtain ⟨b, off0⟩ := bo
  obtain ⟨ad, c', hv, hlc, hpos, hq0, hcc⟩ := s2
  obtain rfl := hq0 rfl
  have hbs := run_sliceBounds (P := P) true len c' len hγ h1 h2 rfl hlc hR hto hti hb
  refine ⟨.slice (some ⟨b, if c' = loOf lo' then ad else ad + loOf lo' * ei.size, none⟩) (hiOf len hi' - loOf lo') (c' - loOf lo'), ?_, ?_⟩
  ·simp [execOp, Instr.sliceAt, Instr.slice, hv, run_underlying (und_slice hT hl htd), hbs, elemSize hT he]
   split <;> simp [Addr.add_lit]
  ·rw [hes']
   exact slice_sub hl' hs (by omega) (by omega) hcap hle
end
end Go.Sym
namespace Go.Sym
open Go.RowKit
section
variable {P : Program} {T : Tbl} {fr : Fr} {S S' : St} {L : LMap} {a : Act} {w : World} {γ : Bool}
variable {ty : Nat} {pos : String} {aft : Array Edge} {g : Option (Nat × Bool)} {dst : Option Nat}
theorem run_append_zeros {t t2 ty e n m cap : Nat} {k2 : IntKind} {k3 : IntKind} {i : TypeInfo} {z : Value} (ht : P.underlying t = some (.slice e)) (ht2 : P.underlying t2 = some (.int k2)) (hi : P.info? e = some i) (hz : i.zero = some z) (hzs : z.cells.size = i.size) {old : List Value} {base : Option Addr}
  (hold : (Builtin.firstCells i.size n (.slice base n cap)).run P w.drew = .ok old.toArray w.drew) (hroom : ¬ (n + m ≤ cap))
  (h63 : n + m ≤ 9223372036854775807) (hb : (n + m) * i.bytes ≤ 140737488355328) :
  (Builtin.append_ #[t, t2] ty #[.slice base n cap, .int k3 (m : Int)]).run P w = .ok (.slice (some ⟨w.heap.size, 0, none⟩) (n + m) (grownCap w (n + m) cap e))
   (w.drew.alloc (.cells (old.toArray ++ Builtin.zeroCells z.cells m ++ Builtin.zeroCells z.cells (grownCap w (n + m) cap e - (n + m))) e)) := by
 have h63' : ¬ ((9223372036854775807 : Int) < (n : Int) + (m : Int)) := by omega
 have h48' : ¬ (281474976710656 < Builtin.nextslicecap (n + m) cap * i.bytes) := Nat.not_lt.2 (growslice_fits (by omega) hb)
 have hw : IntKind.i64.wrap (m : Int) = m := IntWalk.i64_in _ (by omega)
 have hmb : m * i.bytes ≤ (n + m) * i.bytes := Nat.mul_le_mul_right _ (by omega)
 have h2 : ¬ ((281474976710656 : Int) < (m : Int) * (i.bytes : Int)) := by
  have : ((m * i.bytes : Nat) : Int) = (m : Int) * (i.bytes : Int) := by simp
  rw [← this]; omega
 have h0 : ¬ ((m : Int) < 0) := by omega
 have hz0 : (if m * i.size = 0 then (#[] : Array Value) else Builtin.zeroCells z.cells m) = Builtin.zeroCells z.cells m := by
  split
  ·rename_i h; apply Array.eq_empty_of_size_eq_zero .. |>.symm; simp [Builtin.zeroCells, hzs, h]
  ·rfl
 by_cases hms : m * i.size = 0
 ·rw [if_pos hms] at hz0
  simp [Builtin.append_, run_underlying ht, run_underlying ht2, sizeOf, typeInfo, zeroValue, hi, hz, hw, h0, h2, hroom, h63', h48', Question.forced, hold, newRow, grownCap, asInt, asIntOf, ← hz0]
 ·simp [Builtin.append_, run_underlying ht, run_underlying ht2, sizeOf, typeInfo, zeroValue, hi, hz, hw, h0, h2, hroom, h63', h48', Question.forced, hold, newRow, grownCap, asInt, asIntOf]
  exact fun h => absurd h hms
theorem F_appendOver [Globs P] (hT : TOk P T) (hγ : γ = true) {k t t2 e m : Nat} {k2 k3 : IntKind} {x y : Operand} {o len n sz by_ c : Nat} {isnil : Bool} {es : List PV} {ti ti2 ei : TI} {zs : List Value} (hx : OpdO γ S x (.osl o 0 len n)) (hy : OpdO γ S y (.v (.int k3 (m : Int))))
  (hl : look T t = some ti) (hd : ti.d = .slice e) (hle : look T e = some ei) (hsz : ei.size = sz) (hby : ei.bytes = by_) (hz : ei.zero = some zs) (hzs : Nat.beq zs.length sz = true) (hl2 : look T t2 = some ti2) (hd2 : ti2.d = .int k2)
  (ho : S.obj o = some (.arrc sz isnil es c)) (hk : S.obj k = none) (hs : Side (n = es.length)) (hover : Side (c < len + m)) (hbytes : Side ((len + m) * by_ ≤ 140737488355328)) (h63 : Side (len + m ≤ 9223372036854775807)) :
  FStep P ⟨some k, .call { callee := .builtin .append, args := #[x, y], argTypes := #[t, t2] }, ty, pos, aft, g⟩ S [o, k] ⟨.osl k 0 (len + m) (len + m), [(k, .arr sz false (es.take len ++ List.replicate m (deadE sz)))]⟩ := by
 intro fr S' ht hn L a w hR hG Q
 obtain ⟨d2, hu2, hd2'⟩ := und_any hT hl2
 have hd3 : d2 = .int k2 := by
  rw [hd2] at hd2'
  cases d2 <;> simp [TD.of] at hd2'
  subst hd2'; rfl
 subst hd3
 subst hsz
 subst hby
 have hp := hx.rep hγ hR (fun t e => ht t (mem_tmps (x := x) (by simp [Op.operands, Call.operands]) t e))
 have hq := (hy.rep hγ hR (fun t e => ht t (mem_tmps (x := y) (by simp [Op.operands, Call.operands]) t e))).inv_v
 have ho' := (hn o (by simp)).trans ho
 have hk' := (hn k (by simp)).trans hk
 obtain ⟨base, hl', hcap, hnil, hes, hcells⟩ := hR.arrc ho'
 obtain ⟨s1, s2⟩ := hp.osl_at hl' hs
 have hs' : n = es.length := hs
 have hov' : c < len + m := hover
 have hu := und_slice hT hl hd
 obtain ⟨z, hzr, hzc, info, hi, hiz, his, hib⟩ := zero_of hT hle hz w
 have hzlen : zs.length = ei.size := Nat.eq_of_beq_eq_true hzs
 have hzsz : z.cells.size = info.size := by rw [hzc, his]; simpa using hzlen
 have hes2 : ∀ e ∈ es.take len, e.cells.length = ei.size := fun e he => hes e (List.mem_of_mem_take he)
 have hb' : (len + m) * info.bytes ≤ 140737488355328 := by rw [hib]; exact hbytes
 have h63' : len + m ≤ 9223372036854775807 := h63
 have hge := grownCap_ge w (len + m)
 obtain ⟨old, cp, hv, hcl, hold, hrold⟩ : ∃ (old : List Value) (bs : Option Addr × Nat), a.eval x = .slice bs.1 len bs.2 ∧ bs.2 ≤ c ∧ (Builtin.firstCells info.size len (.slice bs.1 len bs.2)).run P w.drew = .ok old.toArray w.drew ∧ RepL w (fr.F L) L (cellsOf (es.take len)) old := by
  cases base with
  | none =>
   simp only at hcells
   have hc0 : c = 0 := hcells
   have h0 : len = 0 := by omega
   subst h0
   exact ⟨[], (none, 0), s2, by omega, by simp [Builtin.firstCells], by simp; exact .nil _⟩
  | some bo =>
   obtain ⟨b, off⟩ := bo
   obtain ⟨ad, c', hv, hlc, hpos, hq0, hcc⟩ := s2
   obtain rfl := hq0 rfl
   rw [Nat.sub_zero] at hcc
   subst hcc
   obtain ⟨vs, g1, g2, g3⟩ := cells_list (w := w) (F := fr.F L) (L := L) (b := b) (ds := cellsOf (es.take len)) (o := ad) (fun j p hj => by
    rw [cellsOf_take hes, List.getElem?_take] at hj
    split at hj
    ·obtain ⟨y, m1, _, m2⟩ := hcells.1 j p hj
     exact ⟨y, m1, m2⟩
    ·simp at hj)
   have hvl : vs.length = len * info.size := by rw [g1, cellsOf_length hes2, his, List.length_take, Nat.min_eq_left (by omega)]
   exact ⟨vs, (some ⟨b, ad, none⟩, c'), hv, Nat.le_refl _, run_firstCells_list (w := w.drew) hvl g3 _, g2⟩
 have hol : old.length = len * ei.size := by rw [← repL_length hrold, cellsOf_length hes2, List.length_take, Nat.min_eq_left (by omega)]
 have hr := run_append_zeros (P := P) (w := w) (t := t) (t2 := t2) (ty := ty) (e := e) (n := len) (m := m) (cap := cp.2) (k2 := k2) (k3 := k3) (base := cp.1) (old := old) hu hu2 hi hiz hzsz hold (by omega) h63' hb'
 have key : (execOp a.eval ⟨some k, .call { callee := .builtin .append, args := #[x, y], argTypes := #[t, t2] }, ty, pos, aft, g⟩).run P w = .ok (.value (.slice (some ⟨w.heap.size, 0, none⟩) (len + m) (grownCap w (len + m) cp.2 e))) (w.drew.alloc (.cells (old.toArray ++ Builtin.zeroCells z.cells m ++ Builtin.zeroCells z.cells (grownCap w (len + m) cp.2 e - (len + m))) e)) := by
  simp only [execOp, resolve, Sem.run_bind, Sem.run_pure, Result.andThen_ok, invoke, builtin]
  simp [hv, hq, hr]
 have hge := grownCap_ge w (len + m) cp.2 e
 have hdl : ∀ e ∈ List.replicate m (deadE ei.size), e.cells.length = ei.size := fun e he => by rw [List.eq_of_mem_replicate he]; simp [deadE, PV.cells]
 have hll : (es.take len ++ List.replicate m (deadE ei.size)).length = len + m := by simp; omega
 have hzm : (Builtin.zeroCells z.cells m).toList.length = m * ei.size := by rw [Array.length_toList, size_zeroCells', hzsz, his]
 obtain ⟨L', h1, h2⟩ := R.moveArr (hR.drew) (o := k) (sz := ei.size) (cap := grownCap w (len + m) cp.2 e) (es := es.take len ++ List.replicate m (deadE ei.size)) (vs := old ++ (Builtin.zeroCells z.cells m).toList ++ (Builtin.zeroCells z.cells (grownCap w (len + m) cp.2 e - (len + m))).toList) (fun l0 h => (hR.noL hk' l0 h).elim)
  (fun e he => (List.mem_append.1 he).elim (hes2 e) (hdl e))
  (by
   rw [hll, List.take_left' (by rw [List.length_append, hol, hzm, Nat.add_mul]), cellsOf_append]
   have hext : Ext w (fr.F L) w.drew (fr.F L) := fun b s hx hn => ⟨sees_drew hx, hn⟩
   exact repL_append (hrold.mono hext (LExt.refl L)) (repL_dead _ _ (by rw [cellsOf_length hdl, hzm]; simp) (fun p hp => by
    simp only [cellsOf, List.mem_flatMap] at hp
    obtain ⟨e, he, hpe⟩ := hp
    rw [List.eq_of_mem_replicate he] at hpe
    exact List.eq_of_mem_replicate hpe)))
  (by
   simp only [List.length_append, Array.length_toList, size_zeroCells', hzsz, his, hol, ← Nat.add_mul]
   congr 1; omega)
  (by rw [hll]; exact hge) e
 unfold Oper.wp
 rw [key, Oper.upon_value]
 have harr : (old ++ (Builtin.zeroCells z.cells m).toList ++ (Builtin.zeroCells z.cells (grownCap w (len + m) cp.2 e - (len + m))).toList).toArray = old.toArray ++ Builtin.zeroCells z.cells m ++ Builtin.zeroCells z.cells (grownCap w (len + m) cp.2 e - (len + m)) := by
  apply Array.ext'; simp
 rw [harr] at h1
 refine ⟨_, L', rfl, h1, ?_⟩
 rw [hll] at h2
 exact oslFull h2 hge
theorem F_appendOver' [Globs P] (hT : TOk P T) (hγ : γ = true) {k t t2 e : Nat} {j : Int} {k2 k3 : IntKind} {x y : Operand} {o len n sz by_ c : Nat} {isnil : Bool} {es : List PV} {ti ti2 ei : TI} {zs : List Value} (hx : OpdO γ S x (.osl o 0 len n)) (hy : OpdO γ S y (.v (.int k3 j)))
  (hl : look T t = some ti) (hd : ti.d = .slice e) (hle : look T e = some ei) (hsz : ei.size = sz) (hby : ei.bytes = by_) (hz : ei.zero = some zs) (hzs : Nat.beq zs.length sz = true) (hl2 : look T t2 = some ti2) (hd2 : ti2.d = .int k2)
  (ho : S.obj o = some (.arrc sz isnil es c)) (hk : S.obj k = none) (hs : Side (n = es.length)) (hj : Side (0 ≤ j)) (hover : Side (c < len + j.toNat)) (hbytes : Side ((len + j.toNat) * by_ ≤ 140737488355328)) (h63 : Side (len + j.toNat ≤ 9223372036854775807)) :
  FStep P ⟨some k, .call { callee := .builtin .append, args := #[x, y], argTypes := #[t, t2] }, ty, pos, aft, g⟩ S [o, k] ⟨.osl k 0 (len + j.toNat) (len + j.toNat), [(k, .arr sz false (es.take len ++ List.replicate j.toNat (deadE sz)))]⟩ := by
 have hj' : 0 ≤ j := hj
 have e : j = ((j.toNat : Nat) : Int) := by omega
 rw [e] at hy
 exact F_appendOver hT hγ hx hy hl hd hle hsz hby hz hzs hl2 hd2 ho hk hs hover hbytes h63
theorem Weak.shift {nt : Nat} {S' : St} (o o' sz : Nat) {nl nl' : Bool} {es es' : List PV} {t' : List (Nat × PV)} (hoo : o ≠ o') (ho : S.obj o = some (.arr sz nl es) ∨ ∃ c, S.obj o = some (.arrc sz nl es c)) (ho' : S.obj o' = some (.arr sz nl' es')) (hlt : Side (es.length < es'.length)) (hp : plainL es' = true) (hpn : o' < PN)
  (hS : S.o.all (fun x => Nat.beq x.1 o || Nat.blt x.1 PN) = true) (ht : TurnT S [(o', o)] [] t') : Weak nt S ⟨t', [(o, .arr sz nl' es')]⟩ := by
 intro fr hnt L a w hR
 have hM := hR.mem
 obtain ⟨base', cap', hl', hcap', hnil', hes', hcells'⟩ := hR.arr ho'
 have hlo : ∃ base cap, L o = some (.arr base es.length cap sz) := by
  rcases ho with ho | ⟨c, ho⟩
  ·obtain ⟨base, cap, h1, _⟩ := hR.arr ho; exact ⟨base, cap, h1⟩
  ·obtain ⟨base, h1, _⟩ := hR.arrc ho; exact ⟨base, c, h1⟩
 obtain ⟨base, cap, hl⟩ := hlo
 have hlt' : es.length < es'.length := hlt
 let L' : LMap := fun n => if n = o then L o' else none
 have hLo : L' o = some (.arr base' es'.length cap' sz) := by simp [L', hl']
 have hL2 : ∀ n l, L' n = some l → n = o ∧ L o' = some l := fun n l h => by
  simp only [L'] at h
  split at h
  ·rename_i e; exact ⟨e, h⟩
  ·simp at h
 have hF : ∀ b, ¬ fr.F L b → ¬ fr.F L' b := fun b hn h => by
  rcases h with h | ⟨n, l, h1, h2⟩
  ·exact hn (.inl h)
  ·exact hn (.inr ⟨o', l, (hL2 n l h1).2, h2⟩)
 have hcv := conv_rep_all (L' := L') (F' := fr.F L') hM (σ := [(o', o)]) (B := []) hF (fun o h => by simp at h) (fun x y h l hx => by
  rw [look_cons] at h
  split at h
  ·rename_i e; subst e
   simp at h; subst h
   simp only [L', if_true]; exact hx
  ·simp [look] at h)
 refine ⟨L', ⟨fun n ob hn => ?_, fun n l hn => ?_, fun n n' l l' b hn hn' _ _ => (hL2 n l hn).1.trans (hL2 n' l' hn').1.symm, fun n l b hn hb => hM.place o' l b (hL2 n l hn).2 hb, fun n l b hn hb => hM.kind o' l b (hL2 n l hn).2 hb, hM.parLt, hM.xLt, hM.frame, fun n l h => ?_⟩, hR.nt, hR.defers, fun t p hp => ?_⟩
 ·have hn' : look [(o, SObj.arr sz nl' es')] n = some ob := hn
  rw [look_cons] at hn'
  split at hn'
  ·rename_i e; subst e
   simp at hn'; subst hn'
   refine ⟨_, hLo, rfl, rfl, hcap', hnil', hes', ?_⟩
   cases base' with
   | none => exact hcells'
   | some bo =>
    refine ⟨fun j c hj => ?_, hcells'.2⟩
    obtain ⟨x, k1, k2, k3⟩ := hcells'.1 j c hj
    obtain ⟨e, he, hce⟩ := List.mem_flatMap.1 (List.mem_of_getElem? hj)
    exact ⟨x, k1, k2, (k3.plain (plain_cells (plainL_mem hp e he) c hce) L').mono (fun b s hx hn => ⟨hx, hF b hn⟩) (LExt.refl _)⟩
  ·simp [look] at hn'
 ·obtain ⟨rfl, _⟩ := hL2 n l hn
  exact ⟨_, by show look [(n, SObj.arr sz nl' es')] n = _; rw [look_cons, if_pos rfl]⟩
 ·obtain ⟨l1, h1, h2⟩ := hM.lext n l h
  obtain ⟨ob, hob⟩ := hM.dom n l1 h1
  have hpn := hnt.2 n l h
  have := (List.all_eq_true.1 hS) _ (look_mem hob)
  simp only [Bool.or_eq_true, Nat.beq_eq, Nat.blt_eq] at this
  obtain rfl : n = o := by
   rcases this with e | e
   ·exact Nat.eq_of_beq_eq_true (by simpa using e)
   ·omega
  rw [hl] at h1
  cases h1
  refine ⟨_, hLo, fun off x hx => trivial, fun off len k x hk => ?_, fun i off k x hk => ?_⟩
  ·have := h2.2.1 off len k x hk
   exact ⟨by have := this.1; omega, fun h => by have := this.1; omega⟩
  ·have := h2.2.2 i off k x hk
   cases base with
   | none =>
    have hk' : k < es.length := this
    cases base' with
    | none => show k < _; omega
    | some p => exact ⟨by omega, fun h => by omega⟩
   | some p =>
    have hk' : k ≤ es.length := this.1
    cases base' with
    | none => show k < _; omega
    | some p => exact ⟨by omega, fun h => by omega⟩
 ·have hmem := look_mem hp
  obtain ⟨q, g1, g2⟩ := ht.get t p hmem
  obtain ⟨x, h1, h2⟩ := hR.vals t q g1
  exact ⟨x, h1, hcv.1 g2 x h2⟩
end
theorem bok {n : Nat} {a b : Int} (h : 0 ≤ a ∧ a ≤ b ∧ b ≤ n) : Side (boundsOk n (some a) (some b)) := ⟨fun i hi => by cases hi; omega, fun i hi => by cases hi; simp only [hiOf]; omega⟩
theorem bokL {n : Nat} {a : Int} (h : 0 ≤ a ∧ a ≤ n) : Side (boundsOk n (some a) none) := ⟨fun i hi => (by cases hi), fun i hi => by cases hi; simp only [hiOf]; omega⟩
theorem bokR {n : Nat} {b : Int} (h : 0 ≤ b ∧ b ≤ n) : Side (boundsOk n none (some b)) := ⟨fun i hi => by cases hi; omega, fun i hi => (by cases hi)⟩
theorem vI {k : IntKind} {a b : Int} (h : a = b) : PV.v (.int k a) = .v (.int k b) := by rw [h]
theorem vB {a b : Bool} (h : a = b) : bV a = bV b := by rw [h]
theorem Ret1 {T : Tbl} {S : St} {rv : List ResultVar} {p r : PV} (B : List Nat) (h : ResV T S rv [p]) (hB : B.all (fun o => Nat.blt o PN && !([] : List Nat).contains o) = true) (hc : ConvP S [] B p r) : Returns T S rv r [] [] :=
 ⟨[p], p, [], B, [], [], h, .one, .nil, .nil, rfl, rfl, hB, .nil, .nil, hc⟩
theorem Ret2 {T : Tbl} {S : St} {rv : List ResultVar} {p q r t : PV} (B : List Nat) (h : ResV T S rv [p, q]) (hB : B.all (fun o => Nat.blt o PN && !([] : List Nat).contains o) = true) (hc : ConvP S [] B p r) (hd : ConvP S [] B q t) : Returns T S rv (.tup [r, t]) [] [] :=
 ⟨[p, q], .tup [p, q], [], B, [], [], h, .many, .nil, .nil, rfl, rfl, hB, .nil, .nil, .tup (.cons hc (.cons hd .nil))⟩
theorem Rule.under {P : Program} [Globs P] {T : Tbl} (hT : TOk P T) {γ : Bool} {S : St} {o : Oper} {rn : List Nat} {d : Delta} (h : γ = true → Rule P T true S o rn d) : Rule P T γ S o rn d := .sem fun hγ => (h hγ).sound hT (Eq.refl true)
theorem cvB {S : St} {σ : List (Nat × Nat)} {B : List Nat} {a b : Bool} (h : a = b) : ConvP S σ B (bV a) (bV b) := h ▸ .v
theorem cvI {S : St} {σ : List (Nat × Nat)} {B : List Nat} {k : IntKind} {a b : Int} (h : a = b) : ConvP S σ B (.v (.int k a)) (.v (.int k b)) := h ▸ .v
theorem Trip.seqk {P : Program} [Globs P] {nt : Nat} {S : St} {Q : Exit → St → Prop} (S2 : St) {x y : Code} (h : Trip P nt S x (onNormal (fun S' => Weak nt S' S2) Q)) (k : Trip P nt S2 y Q) : Trip P nt S (.seq x y) Q :=
 Trip.seq (Trip.mono h fun e S' h' => by
  cases e with
  | normal => exact Trip.weak h' k
  | _ => exact h')
end Go.Sym
