/- The logic 'Sym': operations that make memory or write to it. -/
import Derived.Test.YtbdpnkcpglpfbaaSymH
import Derived.Laws.MakeOwn
namespace Go.Sym
open Go.RowKit

section
variable {P : Program} {T : Tbl} {fr : Fr} {S S' : St} {L : LMap} {a : Act} {w : World} {γ : Bool}
variable {ty : Nat} {pos : String} {aft : Array Edge} {g : Option (Nat × Bool)}

theorem R.noL (hR : R fr S L a w) {k : Nat} (hk : S.obj k = none) : ∀ l0, L k = some l0 → False := fun l0 h => by
  obtain ⟨ob, h1⟩ := hR.mem.dom k l0 h
  rw [hk] at h1; simp at h1

theorem R.newBox (hR : R fr S L a w) {k : Nat} (hk : S.obj k = none) {ps : List PV} {vs : List Value} (hps : RepL w (fr.F L) L ps vs) (e : TypeId) :
    ∃ L', R fr (S.upd [(k, .box ps)]) L' a (w.alloc (.cells vs.toArray e)) ∧ L' k = some (.box w.heap.size 0 ps.length) := by
  have hno := hR.noL hk
  refine ⟨L.set k (.box w.heap.size 0 ps.length), (R.step hR k (.box ps) (.box w.heap.size 0 ps.length) (hR.mem.frame.alloc _ hR.mem.parLt.1) (by simp) (fun b hb _ => Below.heap_alloc _ _ _ hb) (fun l0 h => (hno l0 h).elim)
    (fun b hb => .inr (by simp [Loc.blk] at hb; subst hb; simp)) (fun b hb => by simp [Loc.blk] at hb; subst hb; exact ⟨_, _, heap_alloc_new w _⟩) (fun hext hl => ⟨rfl, fun j c hc => ?_⟩)).1, by simp [LMap.set]⟩
  obtain ⟨x, h1, h2⟩ := repL_get hps j c hc
  refine ⟨x, ?_, by simp, h2.mono hext hl⟩
  have := World.cell?_alloc_new w vs.toArray e j
  simp [h1]

theorem F_box (hγ : γ = true) {k : Nat} {elem : TypeId} {x : Operand} {p : PV} (hx : OpdO γ S x p) (hk : S.obj k = none) (hp : rowOk p = true) :
    FStep P ⟨some k, .box elem x, ty, pos, aft, g⟩ S [k] ⟨.ref k 0, [(k, .box p.cells)]⟩ := by
  intro fr S' ht hn L a w hR Q
  have h1 := hx.rep hγ hR (fun t e => ht t (mem_tmps (x := x) (by simp [Op.operands]) t e))
  obtain ⟨L', h2, h3⟩ := hR.newBox ((hn k (by simp)).trans hk) (rep_cells h1 hp) elem
  unfold Oper.wp
  have hrun : (execOp a.eval ⟨some k, .box elem x, ty, pos, aft, g⟩).run P w = .ok (.value (.pointer (some ⟨w.heap.size, 0, none⟩))) (w.alloc (.cells (a.eval x).cells.toList.toArray elem)) := by
    simp [execOp, Instr.box, newVar, newRow]
  rw [hrun, Oper.upon_value]
  exact ⟨_, L', rfl, h2, .ref h3 (by simp [Loc.refAt]) ⟨_, rfl⟩⟩

theorem zero_of (hT : TOk P T) {t : TypeId} {ti : TI} {zs : List Value} (hl : look T t = some ti) (hz : ti.zero = some zs) (w : World) : ∃ z, (zeroValue t).run P w = .ok z w ∧ z.cells = zs.toArray ∧ ∃ i, P.info? t = some i ∧ i.zero = some z ∧ i.size = ti.size ∧ i.bytes = ti.bytes := by
  obtain ⟨info, desc, h1, _, _, h4, h5, h6, _⟩ := hT.get hl
  rw [hz] at h6
  cases hi : info.zero with
  | none => rw [hi] at h6; simp at h6
  | some z =>
    rw [hi] at h6
    simp at h6
    refine ⟨z, by simp [zeroValue, typeInfo, h1, hi], by rw [h6], info, h1, hi, h4.symm, h5.symm⟩

theorem F_alloc (hT : TOk P T) {k : Nat} {elem : TypeId} {ti : TI} {zs : List Value} (hl : look T elem = some ti) (hz : ti.zero = some zs) (hk : S.obj k = none) :
    FStep P ⟨some k, .alloc elem, ty, pos, aft, g⟩ S [k] ⟨.ref k 0, [(k, .box (zs.map .v))]⟩ := by
  intro fr S' ht hn L a w hR Q
  obtain ⟨z, h1, hzc, _⟩ := zero_of hT hl hz w
  obtain ⟨L', h2, h3⟩ := hR.newBox ((hn k (by simp)).trans hk) (repL_map_v w (fr.F L) L zs) elem
  unfold Oper.wp
  have hrun : (execOp a.eval ⟨some k, .alloc elem, ty, pos, aft, g⟩).run P w = .ok (.value (.pointer (some ⟨w.heap.size, 0, none⟩))) (w.alloc (.cells zs.toArray elem)) := by
    simp [execOp, Instr.alloc, newVar, newRow, h1, hzc]
  rw [hrun, Oper.upon_value]
  exact ⟨_, L', rfl, h2, .ref h3 (by simp [Loc.refAt]) ⟨_, rfl⟩⟩

/-- A new array of the call's own. -/
theorem R.newArr (hR : R fr S L a w) {k sz cap : Nat} (hk : S.obj k = none) {es : List PV} {vs : List Value} (hes : ∀ e ∈ es, e.cells.length = sz) (hps : RepL w (fr.F L) L (cellsOf es) (vs.take (es.length * sz))) (hlen : vs.length = cap * sz) (hcap : es.length ≤ cap) (e : TypeId) :
    ∃ L', R fr (S.upd [(k, .arr sz false es)]) L' a (w.alloc (.cells vs.toArray e)) ∧ L' k = some (.arr (some (w.heap.size, 0)) es.length cap sz) := by
  have hno := hR.noL hk
  refine ⟨L.set k (.arr (some (w.heap.size, 0)) es.length cap sz), (R.step hR k (.arr sz false es) (.arr (some (w.heap.size, 0)) es.length cap sz) (hR.mem.frame.alloc _ hR.mem.parLt.1) (by simp) (fun b hb _ => Below.heap_alloc _ _ _ hb) (fun l0 h => (hno l0 h).elim)
    (fun b hb => .inr (by simp [Loc.blk] at hb; subst hb; simp)) (fun b hb => by simp [Loc.blk] at hb; subst hb; exact ⟨_, _, heap_alloc_new w _⟩) (fun hext hl => ⟨rfl, rfl, hcap, rfl, hes, fun j c hc => ?_, fun j hj => ?_⟩)).1, by simp [LMap.set]⟩
  · obtain ⟨x, h1, h2⟩ := repL_get hps j c hc
    refine ⟨x, ?_, by simp, h2.mono hext hl⟩
    rw [List.getElem?_take] at h1
    split at h1
    · have := World.cell?_alloc_new w vs.toArray e j
      simp [h1]
    · simp at h1
  · have hjl : j < vs.length := by omega
    refine ⟨vs[j], ?_, by simp⟩
    have := World.cell?_alloc_new w vs.toArray e j
    simp [hjl]

theorem oslFull {b off n cap sz : Nat} {k : Nat} {L : LMap} {F : Nat → Prop} (h : L k = some (.arr (some (b, off)) n cap sz)) (hc : n ≤ cap) : Rep w F L (.osl k 0 n n) (.slice (some ⟨b, off, none⟩) n cap) :=
  .osl h ⟨Nat.le_refl _, fun _ => ⟨by omega, _, _, rfl, hc, fun _ => by simp, fun _ => rfl, by omega⟩⟩ ⟨_, _, _, rfl⟩

/-! A slice that is written out -/
def inRow : Nat → List (Nat × Operand) → Bool
  | _, [] => true
  | k, (j, _) :: r => Nat.beq j k && inRow (k + 1) r

theorem fold_set : ∀ (vs : List Value) (off n : Nat) (done rest : List Value) (cs : Array Value), cs.toList = done ++ rest → done.length = off + n → vs.length ≤ rest.length →
    ((vs.zipIdx n).foldl (fun cs (c, j) => cs.setIfInBounds (off + j) c) cs).toList = done ++ vs ++ rest.drop vs.length
  | [], off, n, done, rest, cs, h1, _, _ => by simp [h1]
  | v :: r, off, n, done, rest, cs, h1, h2, h3 => by
    cases rest with
    | nil => simp at h3
    | cons x rest =>
      rw [List.zipIdx_cons, List.foldl_cons, fold_set r off (n + 1) (done ++ [v]) rest _ ?_ (by simp [h2]; omega) (by simpa using h3)]
      · simp
      · simp only [Array.toList_setIfInBounds, h1]
        rw [List.set_append_right _ _ (by omega)]
        simp [h2]

theorem fill_rows {sz : Nat} : ∀ (vs : List Value) (k : Nat) (done rest : List Value) (cells : Array Value), cells.toList = done ++ rest → done.length = k * sz → (∀ v ∈ vs, v.cells.size = sz) → vs.length * sz ≤ rest.length →
    ∃ out, Instr.fill (fun i => some (i * sz, sz)) cells ((vs.zipIdx k).map fun x => (x.2, x.1)) = some out ∧ out.toList = done ++ vs.flatMap (fun v => v.cells.toList) ++ rest.drop (vs.length * sz)
  | [], k, done, rest, cells, h1, _, _, _ => ⟨cells, by simp [Instr.fill], by simp [h1]⟩
  | v :: r, k, done, rest, cells, h1, h2, hv, h3 => by
    have hs := hv v (by simp)
    simp only [List.length_cons, Nat.succ_mul] at h3
    have hsz : cells.size = k * sz + rest.length := by
      have := congrArg List.length h1
      simpa [h2] using this
    have hfold := fold_set v.cells.toList (k * sz) 0 done rest cells h1 (by simpa using h2) (by simp [hs]; omega)
    obtain ⟨out, g1, g2⟩ := fill_rows r (k + 1) (done ++ v.cells.toList) (rest.drop sz) (v.cells.zipIdx.foldl (fun cs (c, j) => cs.setIfInBounds (k * sz + j) c) cells)
      (by rw [← Array.foldl_toList, Array.toList_zipIdx, hfold]; simp [hs]) (by simp [h2, hs, Nat.succ_mul]) (fun u hu => hv u (by simp [hu])) (by simp; omega)
    refine ⟨out, ?_, ?_⟩
    · rw [List.zipIdx_cons, List.map_cons]
      simp only [Instr.fill, hs]
      rw [if_neg (by simp; omega)]
      exact g1
    · rw [g2]
      simp [List.drop_drop, Nat.succ_mul, Nat.add_comm]

theorem parts_zip (f : Operand → Value) : ∀ {l : List (Nat × Operand)} {k : Nat}, inRow k l = true → l.map (fun x => (x.1, f x.2)) = ((l.map fun x => f x.2).zipIdx k).map fun x => (x.2, x.1)
  | [], _, _ => rfl
  | (j, x) :: r, k, h => by
    simp only [inRow, Bool.and_eq_true] at h
    have := Nat.eq_of_beq_eq_true h.1
    subst this
    simp only [List.map_cons, List.zipIdx_cons]
    rw [parts_zip f h.2]

theorem rep_cells_len {F : Nat → Prop} {L : LMap} {p : PV} {x : Value} (h : Rep w F L p x) (ho : rowOk p = true) : x.cells.size = p.cells.length := by
  have := repL_length (rep_cells h ho)
  simpa using this.symm

theorem repL_flat {F : Nat → Prop} {L : LMap} {sz : Nat} : ∀ {ps : List PV} {vs : List Value}, RepL w F L ps vs → (∀ p ∈ ps, rowOk p = true ∧ p.cells.length = sz) →
    RepL w F L (cellsOf ps) (vs.flatMap fun v => v.cells.toList) ∧ ∀ v ∈ vs, v.cells.size = sz
  | [], _, h, _ => by cases h; exact ⟨.nil L, by simp⟩
  | p :: ps, _, h, hp => by
    cases h with
    | cons h1 h2 =>
      obtain ⟨k1, k2⟩ := hp p (by simp)
      obtain ⟨g1, g2⟩ := repL_flat h2 fun q hq => hp q (by simp [hq])
      have hr := rep_cells h1 k1
      refine ⟨?_, fun v hv => ?_⟩
      · simp only [cellsOf, List.flatMap_cons]
        refine repL_of_get ?_ (fun j c hc => ?_)
        · rw [List.length_append, List.length_append, repL_length hr]
          have := repL_length g1
          simp only [cellsOf] at this
          rw [this]
        · rw [List.getElem?_append] at hc ⊢
          rw [← repL_length hr]
          split at hc
          · rename_i hlt; rw [if_pos hlt]; exact repL_get hr _ _ hc
          · rename_i hlt; rw [if_neg hlt]; exact repL_get g1 _ _ hc
      · rcases List.mem_cons.1 hv with rfl | hm
        · rw [rep_cells_len h1 k1]; exact k2
        · exact g2 v hm

def rowsOk (sz : Nat) (ps : List PV) : Bool := ps.all fun p => rowOk p && Nat.beq p.cells.length sz
theorem rowsOk_spec {sz : Nat} {ps : List PV} (h : rowsOk sz ps = true) : ∀ p ∈ ps, rowOk p = true ∧ p.cells.length = sz := fun p hp => by
  have := (List.all_eq_true.1 h) p hp
  simp only [Bool.and_eq_true] at this
  exact ⟨this.1, Nat.eq_of_beq_eq_true this.2⟩

theorem F_buildSlice (hT : TOk P T) (hγ : γ = true) {k t e n : Nat} {parts : Array (Nat × Operand)} {ps : List PV} {ti ei : TI} {zs : List Value} (hx : OpdsO γ S (parts.toList.map (·.2)) ps) (hrow : inRow 0 parts.toList = true) (hn : parts.toList.length = n)
    (hl : look T t = some ti) (hd : ti.d = .slice e) (hle : look T e = some ei) (hz : ei.zero = some zs) (hzs : zs.length = ei.size) (hps : rowsOk ei.size ps = true) (hbig : Nat.ble (n * ei.size) 16777216 = true) (hk : S.obj k = none) :
    FStep P ⟨some k, .buildSlice t n parts, ty, pos, aft, g⟩ S [k] ⟨.osl k 0 n n, [(k, .arr ei.size false ps)]⟩ := by
  intro fr S' ht hn' L a w hR Q
  have hbig' : ¬ (n * ei.size > 2 ^ 24) := by have := Nat.le_of_ble_eq_true hbig; simp; omega
  have h1 := hx.rep hγ hR (fun x hm t e => ht t (mem_tmps (x := x) (by
    simp only [Op.operands]
    exact Array.mem_toList_iff.1 (by simpa using hm)) t e))
  obtain ⟨g1, g2⟩ := repL_flat h1 (rowsOk_spec hps)
  have hlen : ps.length = n := by rw [repL_length h1]; simp [← hn]
  have hes : ∀ q ∈ ps, q.cells.length = ei.size := fun q hq => (rowsOk_spec hps q hq).2
  obtain ⟨z, hzr, hzc, _⟩ := zero_of hT hle hz w
  generalize hvs : (parts.toList.map (·.2)).map a.eval = vs at h1 g1 g2
  have hvlen : vs.length = n := by rw [← hvs]; simp [hn]
  have hpz : (parts.map fun x => (x.1, a.eval x.2)).toList = (vs.zipIdx 0).map fun x => (x.2, x.1) := by
    rw [Array.toList_map, parts_zip a.eval hrow, ← hvs, List.map_map]; rfl
  have hfill : ∀ cells : Array Value, cells.size = n * ei.size → Instr.fill (fun i => some (i * ei.size, ei.size)) cells (parts.map fun x => (x.1, a.eval x.2)).toList = some (vs.flatMap fun v => v.cells.toList).toArray := by
    intro cells hcs
    obtain ⟨out, k1, k2⟩ := fill_rows vs 0 [] cells.toList cells rfl (by simp) g2 (by simp [hvlen, hcs])
    rw [hpz, k1]
    simp only [List.nil_append, hvlen] at k2
    rw [List.drop_of_length_le (by simp [hcs]), List.append_nil] at k2
    rw [← k2]
  have hflat : (vs.flatMap fun v => v.cells.toList).length = n * ei.size := by
    rw [← repL_length g1, cellsOf_length hes, hlen]
  obtain ⟨L', k1, k2⟩ := hR.newArr (cap := n) ((hn' k (by simp)).trans hk) hes (by rw [hlen, List.take_of_length_le (by omega)]; exact g1) hflat (by omega) e
  unfold Oper.wp
  have hrun : (execOp a.eval ⟨some k, .buildSlice t n parts, ty, pos, aft, g⟩).run P w = .ok (.value (.slice (some ⟨w.heap.size, 0, none⟩) n n)) (w.alloc (.cells (vs.flatMap fun v => v.cells.toList).toArray e)) := by
    by_cases h0 : n * ei.size = 0
    · have hf := hfill ((Array.range (n * ei.size)).map ((#[] : Array Value)[· % (#[] : Array Value).size]!)) (by simp)
      simp only [execOp, Instr.buildSlice, Sem.run_bind, run_underlying (und_slice hT hl hd), Result.andThen_ok, size_of hT hle, if_neg hbig', if_pos h0, Sem.run_pure, hf]
      simp [newRow]
    · have hf := hfill ((Array.range (n * ei.size)).map (z.cells[· % z.cells.size]!)) (by simp)
      simp only [execOp, Instr.buildSlice, Sem.run_bind, run_underlying (und_slice hT hl hd), Result.andThen_ok, size_of hT hle, if_neg hbig', if_neg h0, Sem.run_pure, hzr, hf]
      simp [newRow]
  rw [hrun, Oper.upon_value]
  rw [hlen] at k2
  exact ⟨_, L', rfl, k1, oslFull k2 (Nat.le_refl _)⟩
end
end Go.Sym
