/- A part of the proof: SymI, SymJ. -/
import Derived.Laws.MakeOwn
import Derived.Test.YteailifhgfijgaaGreatDoorPart06
set_option linter.unusedVariables false
set_option linter.unusedSimpArgs false
namespace Go.Sym
open Go.RowKit
section
variable {P : Program} {T : Tbl} {fr : Fr} {S S' : St} {L : LMap} {a : Act} {w : World} {γ : Bool}
variable {ty : Nat} {pos : String} {aft : Array Edge} {g : Option (Nat × Bool)}
theorem R.noL (hR : R fr S L a w) {k : Nat} (hk : S.obj k = none) : ∀ l0, L k = some l0 → False := fun l0 h => by
 obtain ⟨ob, h1⟩ := hR.mem.dom k l0 h
 rw [hk] at h1; simp at h1
theorem R.newBox (hR : R fr S L a w) {k : Nat} (hk : S.obj k = none) {ps : List PV} {vs : List Value} (hps : RepL w (fr.F L) L ps vs) (e : TypeId) :
  ∃ L', R fr (S.upd [(k, .box ps)]) L' a (w.alloc (.cells vs.toArray e)) ∧ L' k = some (.box w.heap.size 0 ps.length) := by
 have hno := hR.noL hk
 refine ⟨L.set k (.box w.heap.size 0 ps.length), (R.step hR k (.box ps) (.box w.heap.size 0 ps.length) (hR.mem.frame.alloc _ hR.mem.parLt.1) (by simp) (fun b hb _ => Below.heap_alloc _ _ _ hb) (fun l0 h => (hno l0 h).elim)
  (fun b hb => .inr (by simp [Loc.blk] at hb; subst hb; simp)) (fun b hb => by simp [Loc.blk] at hb; subst hb; exact ⟨_, _, heap_alloc_new w _⟩) (fun hext hl => ⟨rfl, fun j c hc => ?_⟩)).1, by simp [LMap.set]⟩
 obtain ⟨x, h1, h2⟩ := repL_get hps j c hc
 refine ⟨x, ?_, by simp, h2.mono hext hl⟩
 have := World.cell?_alloc_new w vs.toArray e j
 simp [h1]
theorem F_box [Globs P] (hγ : γ = true) {k : Nat} {elem : TypeId} {x : Operand} {p : PV} (hx : OpdO γ S x p) (hk : S.obj k = none) (hp : rowOk p = true) :
  FStep P ⟨some k, .box elem x, ty, pos, aft, g⟩ S [k] ⟨.ref k 0, [(k, .box p.cells)]⟩ := by
 intro fr S' ht hn L a w hR hG Q
 have h1 := hx.rep hγ hR (fun t e => ht t (mem_tmps (x := x) (by simp [Op.operands]) t e))
 obtain ⟨L', h2, h3⟩ := hR.newBox ((hn k (by simp)).trans hk) (rep_cells h1 hp) elem
 unfold Oper.wp
 have hrun : (execOp a.eval ⟨some k, .box elem x, ty, pos, aft, g⟩).run P w = .ok (.value (.pointer (some ⟨w.heap.size, 0, none⟩))) (w.alloc (.cells (a.eval x).cells.toList.toArray elem)) := by
  simp [execOp, Instr.box, newVar, newRow]
 rw [hrun, Oper.upon_value]
 exact ⟨_, L', rfl, h2, .ref h3 (by simp [Loc.refAt]) ⟨_, rfl⟩⟩
theorem zero_of (hT : TOk P T) {t : TypeId} {ti : TI} {zs : List Value} (hl : look T t = some ti) (hz : ti.zero = some zs) (w : World) : ∃ z, (zeroValue t).run P w = .ok z w ∧ z.cells = zs.toArray ∧ ∃ i, P.info? t = some i ∧ i.zero = some z ∧ i.size = ti.size ∧ i.bytes = ti.bytes := by
 obtain ⟨info, desc, h1, _, _, h4, h5, h6, _⟩ := hT.get hl
 rw [hz] at h6
 cases hi : info.zero with
 | none => rw [hi] at h6; simp at h6
 | some z =>
  rw [hi] at h6
  simp at h6
  refine ⟨z, by simp [zeroValue, typeInfo, h1, hi], by rw [h6], info, h1, hi, h4.symm, h5.symm⟩
theorem F_alloc [Globs P] (hT : TOk P T) {k : Nat} {elem : TypeId} {ti : TI} {zs : List Value} (hl : look T elem = some ti) (hz : ti.zero = some zs) (hk : S.obj k = none) :
  FStep P ⟨some k, .alloc elem, ty, pos, aft, g⟩ S [k] ⟨.ref k 0, [(k, .box (zs.map .v))]⟩ := by
 intro fr S' ht hn L a w hR hG Q
 obtain ⟨z, h1, hzc, _⟩ := zero_of hT hl hz w
 obtain ⟨L', h2, h3⟩ := hR.newBox ((hn k (by simp)).trans hk) (repL_map_v w (fr.F L) L zs) elem
 unfold Oper.wp
 have hrun : (execOp a.eval ⟨some k, .alloc elem, ty, pos, aft, g⟩).run P w = .ok (.value (.pointer (some ⟨w.heap.size, 0, none⟩))) (w.alloc (.cells zs.toArray elem)) := by
  simp [execOp, Instr.alloc, newVar, newRow, h1, hzc]
 rw [hrun, Oper.upon_value]
 exact ⟨_, L', rfl, h2, .ref h3 (by simp [Loc.refAt]) ⟨_, rfl⟩⟩
theorem R.newArr (hR : R fr S L a w) {k sz cap : Nat} (hk : S.obj k = none) {es : List PV} {vs : List Value} (hes : ∀ e ∈ es, e.cells.length = sz) (hps : RepL w (fr.F L) L (cellsOf es) (vs.take (es.length * sz))) (hlen : vs.length = cap * sz) (hcap : es.length ≤ cap) (e : TypeId) :
  ∃ L', R fr (S.upd [(k, .arr sz false es)]) L' a (w.alloc (.cells vs.toArray e)) ∧ L' k = some (.arr (some (w.heap.size, 0)) es.length cap sz) := by
 have hno := hR.noL hk
 refine ⟨L.set k (.arr (some (w.heap.size, 0)) es.length cap sz), (R.step hR k (.arr sz false es) (.arr (some (w.heap.size, 0)) es.length cap sz) (hR.mem.frame.alloc _ hR.mem.parLt.1) (by simp) (fun b hb _ => Below.heap_alloc _ _ _ hb) (fun l0 h => (hno l0 h).elim)
  (fun b hb => .inr (by simp [Loc.blk] at hb; subst hb; simp)) (fun b hb => by simp [Loc.blk] at hb; subst hb; exact ⟨_, _, heap_alloc_new w _⟩) (fun hext hl => ⟨rfl, rfl, hcap, rfl, hes, fun j c hc => ?_, fun j hj => ?_⟩)).1, by simp [LMap.set]⟩
 ·obtain ⟨x, h1, h2⟩ := repL_get hps j c hc
  refine ⟨x, ?_, by simp, h2.mono hext hl⟩
  rw [List.getElem?_take] at h1
  split at h1
  ·have := World.cell?_alloc_new w vs.toArray e j
   simp [h1]
  ·simp at h1
 ·have hjl : j < vs.length := by omega
  refine ⟨vs[j], ?_, by simp⟩
  have := World.cell?_alloc_new w vs.toArray e j
  simp [hjl]
theorem oslFull {b off n cap sz : Nat} {k : Nat} {L : LMap} {F : Nat → Prop} (h : L k = some (.arr (some (b, off)) n cap sz)) (hc : n ≤ cap) : Rep w F L (.osl k 0 n n) (.slice (some ⟨b, off, none⟩) n cap) :=
 .osl h ⟨Nat.le_refl _, fun _ => ⟨by omega, _, _, rfl, hc, fun _ => by simp, fun _ => rfl, by omega⟩⟩ ⟨_, _, _, rfl⟩
def inRow : Nat → List (Nat × Operand) → Bool
 | _, [] => true
 | k, (j, _) :: r => Nat.beq j k && inRow (k + 1) r
theorem fold_set : ∀ (vs : List Value) (off n : Nat) (done rest : List Value) (cs : Array Value), cs.toList = done ++ rest → done.length = off + n → vs.length ≤ rest.length →
  ((vs.zipIdx n).foldl (fun cs (c, j) => cs.setIfInBounds (off + j) c) cs).toList = done ++ vs ++ rest.drop vs.length
 | [], off, n, done, rest, cs, h1, _, _ => by simp [h1]
 | v :: r, off, n, done, rest, cs, h1, h2, h3 => by
  cases rest with
  | nil => simp at h3
  | cons x rest =>
   rw [List.zipIdx_cons, List.foldl_cons, fold_set r off (n + 1) (done ++ [v]) rest _ ?_ (by simp [h2]; omega) (by simpa using h3)]
   ·simp
   ·simp only [Array.toList_setIfInBounds, h1]
    rw [List.set_append_right _ _ (by omega)]
    simp [h2]
theorem fill_rows {sz : Nat} : ∀ (vs : List Value) (k : Nat) (done rest : List Value) (cells : Array Value), cells.toList = done ++ rest → done.length = k * sz → (∀ v ∈ vs, v.cells.size = sz) → vs.length * sz ≤ rest.length →
  ∃ out, Instr.fill (fun i => some (i * sz, sz)) cells ((vs.zipIdx k).map fun x => (x.2, x.1)) = some out ∧ out.toList = done ++ vs.flatMap (fun v => v.cells.toList) ++ rest.drop (vs.length * sz)
 | [], k, done, rest, cells, h1, _, _, _ => ⟨cells, by simp [Instr.fill], by simp [h1]⟩
 | v :: r, k, done, rest, cells, h1, h2, hv, h3 => by
  have hs := hv v (by simp)
  simp only [List.length_cons, Nat.succ_mul] at h3
  have hsz : cells.size = k * sz + rest.length := by
   have := congrArg List.length h1
   simpa [h2] using this
  have hfold := fold_set v.cells.toList (k * sz) 0 done rest cells h1 (by simpa using h2) (by simp [hs]; omega)
  obtain ⟨out, g1, g2⟩ := fill_rows r (k + 1) (done ++ v.cells.toList) (rest.drop sz) (v.cells.zipIdx.foldl (fun cs (c, j) => cs.setIfInBounds (k * sz + j) c) cells)
   (by rw [← Array.foldl_toList, Array.toList_zipIdx, hfold]; simp [hs]) (by simp [h2, hs, Nat.succ_mul]) (fun u hu => hv u (by simp [hu])) (by simp; omega)
  refine ⟨out, ?_, ?_⟩
  ·rw [List.zipIdx_cons, List.map_cons]
   simp only [Instr.fill, hs]
   rw [if_neg (by simp; omega)]
   exact g1
  ·rw [g2]
   simp [List.drop_drop, Nat.succ_mul, Nat.add_comm]
theorem parts_zip (f : Operand → Value) : ∀ {l : List (Nat × Operand)} {k : Nat}, inRow k l = true → l.map (fun x => (x.1, f x.2)) = ((l.map fun x => f x.2).zipIdx k).map fun x => (x.2, x.1)
 | [], _, _ => rfl
 | (j, x) :: r, k, h => by
  simp only [inRow, Bool.and_eq_true] at h
  have := Nat.eq_of_beq_eq_true h.1
  subst this
  simp only [List.map_cons, List.zipIdx_cons]
  rw [parts_zip f h.2]
theorem rep_cells_len {F : Nat → Prop} {L : LMap} {p : PV} {x : Value} (h : Rep w F L p x) (ho : rowOk p = true) : x.cells.size = p.cells.length := by
 have := repL_length (rep_cells h ho)
 simpa using this.symm
theorem repL_flat {F : Nat → Prop} {L : LMap} {sz : Nat} : ∀ {ps : List PV} {vs : List Value}, RepL w F L ps vs → (∀ p ∈ ps, rowOk p = true ∧ p.cells.length = sz) →
  RepL w F L (cellsOf ps) (vs.flatMap fun v => v.cells.toList) ∧ ∀ v ∈ vs, v.cells.size = sz
 | [], _, h, _ => by cases h; exact ⟨.nil L, by simp⟩
 | p :: ps, _, h, hp => by
  cases h with
  | cons h1 h2 =>
   obtain ⟨k1, k2⟩ := hp p (by simp)
   obtain ⟨g1, g2⟩ := repL_flat h2 fun q hq => hp q (by simp [hq])
   have hr := rep_cells h1 k1
   refine ⟨?_, fun v hv => ?_⟩
   ·simp only [cellsOf, List.flatMap_cons]
    refine repL_of_get ?_ (fun j c hc => ?_)
    ·rw [List.length_append, List.length_append, repL_length hr]
     have := repL_length g1
     simp only [cellsOf] at this
     rw [this]
    ·rw [List.getElem?_append] at hc ⊢
     rw [← repL_length hr]
     split at hc
     ·rename_i hlt; rw [if_pos hlt]; exact repL_get hr _ _ hc
     ·rename_i hlt; rw [if_neg hlt]; exact repL_get g1 _ _ hc
   ·rcases List.mem_cons.1 hv with rfl | hm
    ·rw [rep_cells_len h1 k1]; exact k2
    ·exact g2 v hm
def rowsOk (sz : Nat) (ps : List PV) : Bool := ps.all fun p => rowOk p && Nat.beq p.cells.length sz
theorem rowsOk_spec {sz : Nat} {ps : List PV} (h : rowsOk sz ps = true) : ∀ p ∈ ps, rowOk p = true ∧ p.cells.length = sz := fun p hp => by
 have := (List.all_eq_true.1 h) p hp
 simp only [Bool.and_eq_true] at this
 exact ⟨this.1, Nat.eq_of_beq_eq_true this.2⟩
theorem F_buildSlice [Globs P] (hT : TOk P T) (hγ : γ = true) {k t e n : Nat} {parts : Array (Nat × Operand)} {ps : List PV} {ti ei : TI} {zs : List Value} (hx : OpdsO γ S (parts.toList.map (·.2)) ps) (hrow : inRow 0 parts.toList = true) (hn : parts.toList.length = n)
  (hl : look T t = some ti) (hd : ti.d = .slice e) (hle : look T e = some ei) (hz : ei.zero = some zs) (hzs : zs.length = ei.size) (hps : rowsOk ei.size ps = true) (hbig : Nat.ble (n * ei.size) 16777216 = true) (hk : S.obj k = none) :
  FStep P ⟨some k, .buildSlice t n parts, ty, pos, aft, g⟩ S [k] ⟨.osl k 0 n n, [(k, .arr ei.size false ps)]⟩ := by
 intro fr S' ht hn' L a w hR hG Q
 have hbig' : ¬ (n * ei.size > 2 ^ 24) := by have := Nat.le_of_ble_eq_true hbig; simp; omega
 have h1 := hx.rep hγ hR (fun x hm t e => ht t (mem_tmps (x := x) (by
  simp only [Op.operands]
  exact Array.mem_toList_iff.1 (by simpa using hm)) t e))
 obtain ⟨g1, g2⟩ := repL_flat h1 (rowsOk_spec hps)
 have hlen : ps.length = n := by rw [repL_length h1]; simp [← hn]
 have hes : ∀ q ∈ ps, q.cells.length = ei.size := fun q hq => (rowsOk_spec hps q hq).2
 obtain ⟨z, hzr, hzc, _⟩ := zero_of hT hle hz w
 generalize hvs : (parts.toList.map (·.2)).map a.eval = vs at h1 g1 g2
 have hvlen : vs.length = n := by rw [← hvs]; simp [hn]
 have hpz : (parts.map fun x => (x.1, a.eval x.2)).toList = (vs.zipIdx 0).map fun x => (x.2, x.1) := by
  rw [Array.toList_map, parts_zip a.eval hrow, ← hvs, List.map_map]; rfl
 have hfill : ∀ cells : Array Value, cells.size = n * ei.size → Instr.fill (fun i => some (i * ei.size, ei.size)) cells (parts.map fun x => (x.1, a.eval x.2)).toList = some (vs.flatMap fun v => v.cells.toList).toArray := by
  intro cells hcs
  obtain ⟨out, k1, k2⟩ := fill_rows vs 0 [] cells.toList cells rfl (by simp) g2 (by simp [hvlen, hcs])
  rw [hpz, k1]
  simp only [List.nil_append, hvlen] at k2
  rw [List.drop_of_length_le (by simp [hcs]), List.append_nil] at k2
  rw [← k2]
 have hflat : (vs.flatMap fun v => v.cells.toList).length = n * ei.size := by
  rw [← repL_length g1, cellsOf_length hes, hlen]
 obtain ⟨L', k1, k2⟩ := hR.newArr (cap := n) ((hn' k (by simp)).trans hk) hes (by rw [hlen, List.take_of_length_le (by omega)]; exact g1) hflat (by omega) e
 unfold Oper.wp
 have hrun : (execOp a.eval ⟨some k, .buildSlice t n parts, ty, pos, aft, g⟩).run P w = .ok (.value (.slice (some ⟨w.heap.size, 0, none⟩) n n)) (w.alloc (.cells (vs.flatMap fun v => v.cells.toList).toArray e)) := by
  by_cases h0 : n * ei.size = 0
  ·have hf := hfill ((Array.range (n * ei.size)).map ((#[] : Array Value)[· % (#[] : Array Value).size]!)) (by simp)
   simp only [execOp, Instr.buildSlice, Sem.run_bind, run_underlying (und_slice hT hl hd), Result.andThen_ok, size_of hT hle, if_neg hbig', if_pos h0, Sem.run_pure, hf]
   simp [newRow]
  ·have hf := hfill ((Array.range (n * ei.size)).map (z.cells[· % z.cells.size]!)) (by simp)
   simp only [execOp, Instr.buildSlice, Sem.run_bind, run_underlying (und_slice hT hl hd), Result.andThen_ok, size_of hT hle, if_neg hbig', if_neg h0, Sem.run_pure, hzr, hf]
   simp [newRow]
 rw [hrun, Oper.upon_value]
 rw [hlen] at k2
 exact ⟨_, L', rfl, k1, oslFull k2 (Nat.le_refl _)⟩
end
end Go.Sym
namespace Go.Sym
open Go.RowKit
inductive SpliceR : Nat → List PV → List PV → List PV → Prop
 | done {cs : List PV} : SpliceR 0 [] cs cs
 | here {v c : PV} {vs cs ds : List PV} : SpliceR 0 vs cs ds → SpliceR 0 (v :: vs) (c :: cs) (v :: ds)
 | skip {n : Nat} {c : PV} {vs cs ds : List PV} : SpliceR n vs cs ds → SpliceR (n + 1) vs (c :: cs) (c :: ds)
theorem SpliceR.spec {n : Nat} {vs cs ds : List PV} (h : SpliceR n vs cs ds) : ds = cs.take n ++ vs ++ cs.drop (n + vs.length) ∧ n + vs.length ≤ cs.length ∧ ds.length = cs.length := by
 induction h with
 | done => simp
 | here _ ih => obtain ⟨h1, h2, h3⟩ := ih; refine ⟨by simpa using h1, by simp at h2 ⊢; omega, by simp [h3]⟩
 | skip _ ih => obtain ⟨h1, h2, h3⟩ := ih; refine ⟨by simp [h1, Nat.add_right_comm], by simp at h2 ⊢; omega, by simp [h3]⟩
inductive FillP (fs : List (Nat × Nat × TypeId)) : List Nat → List PV → List PV → List PV → Prop
 | nil {cs : List PV} : FillP fs [] [] cs cs
 | cons {i off sz ft : Nat} {is : List Nat} {p : PV} {ps cs ds es : List PV} : fs[i]? = some (off, sz, ft) → Nat.beq p.cells.length sz = true → rowOk p = true → SpliceR off p.cells cs ds → FillP fs is ps ds es → FillP fs (i :: is) (p :: ps) cs es
section
variable {P : Program} {T : Tbl} {fr : Fr} {S S' : St} {L : LMap} {a : Act} {w : World} {γ : Bool}
variable {ty : Nat} {pos : String} {aft : Array Edge} {g : Option (Nat × Bool)}
theorem run_places : ∀ (fields : List Field), (∀ f ∈ fields, ∃ i, P.info? f.type = some i) → ∀ w, (fields.mapM (fun f => do pure (f.offset, ← sizeOf f.type) : Field → Sem (Nat × Nat))).run P w = .ok (fields.map fun f => (f.offset, P.cellsOf f.type)) w
 | [], _, w => by simp
 | f :: r, h, w => by
  obtain ⟨i, hi⟩ := h f (by simp)
  simp only [List.mapM_cons, Sem.run_bind, sizeOf, typeInfo, run_program, Result.andThen_ok, hi, Sem.run_pure, List.map_cons]
  have := run_places r (fun f hf => h f (by simp [hf])) w
  simp only [sizeOf, typeInfo] at this
  rw [this]
  simp [Program.cellsOf, hi]
theorem fill_sound {F : Nat → Prop} {L : LMap} {fs : List (Nat × Nat × TypeId)} {pl : Nat → Option (Nat × Nat)} (hpl : ∀ i off sz ft, fs[i]? = some (off, sz, ft) → sz ≠ 0 → pl i = some (off, sz)) (hnz : ∀ x ∈ fs, x.2.1 ≠ 0) {is : List Nat} {ps cs es : List PV}
  (h : FillP fs is ps cs es) : ∀ {vs : List Value} {cells : Array Value}, RepL w F L ps vs → RepL w F L cs cells.toList → ∃ out, Instr.fill pl cells (is.zip vs) = some out ∧ RepL w F L es out.toList := by
 induction h with
 | nil => intro vs cells hp hc; cases hp; exact ⟨cells, by simp [Instr.fill], hc⟩
 | @cons i off sz ft is p ps cs ds es h1 h2 h3 h4 h5 ih =>
  intro vs cells hp hc
  cases hp with
  | @cons _ _ _ v vs hp1 hp2 =>
   have hsz := Nat.eq_of_beq_eq_true h2
   have hv := rep_cells hp1 h3
   have hvs := rep_cells_len hp1 h3
   have hz : sz ≠ 0 := hnz _ (List.mem_of_getElem? h1)
   obtain ⟨e1, e2, e3⟩ := h4.spec
   have hclen := repL_length hc
   simp at hclen
   have hfold := fold_set v.cells.toList off 0 (cells.toList.take off) (cells.toList.drop off) cells (by simp) (by simp; omega) (by simp; omega)
   obtain ⟨out, k1, k2⟩ := ih (cells := v.cells.zipIdx.foldl (fun cs (c, j) => cs.setIfInBounds (off + j) c) cells) hp2 (by
    rw [← Array.foldl_toList, Array.toList_zipIdx, hfold, e1]
    refine repL_of_get ?_ (fun j c hj => ?_)
    ·simp; omega
    ·rw [List.getElem?_append] at hj ⊢
     simp only [List.length_append, List.length_take] at hj ⊢
     have hm1 : min off cs.length = off := by omega
     have hm2 : min off cells.toList.length = off := by simp; omega
     rw [hm1] at hj
     rw [hm2]
     have hvl : v.cells.toList.length = p.cells.length := by simpa using hvs
     rw [hvl]
     split at hj
     ·rename_i hlt
      rw [if_pos hlt]
      rw [List.getElem?_append] at hj ⊢
      simp only [List.length_take] at hj ⊢
      rw [hm1] at hj
      rw [hm2]
      split at hj
      ·rename_i hlt2
       rw [if_pos hlt2]
       rw [List.getElem?_take, if_pos hlt2] at hj ⊢
       exact repL_get hc _ _ hj
      ·rename_i hlt2
       rw [if_neg hlt2]
       exact repL_get hv _ _ hj
     ·rename_i hlt
      rw [if_neg hlt]
      rw [List.getElem?_drop] at hj
      rw [List.getElem?_drop, List.getElem?_drop]
      have e : off + (p.cells.length + (j - (off + p.cells.length))) = off + p.cells.length + (j - (off + p.cells.length)) := by omega
      rw [e]
      exact repL_get hc _ _ hj)
   refine ⟨out, ?_, k2⟩
   rw [List.zip_cons_cons]
   simp only [Instr.fill, hpl _ _ _ _ h1 hz]
   rw [if_neg (by simp; omega)]
   exact k1
theorem F_build [Globs P] (hT : TOk P T) (hγ : γ = true) {dst : Option Nat} {t : TypeId} {parts : Array (Nat × Operand)} {ps es : List PV} {ti : TI} {fs : List (Nat × Nat × TypeId)} {zs : List Value} (hx : OpdsO γ S (parts.toList.map (·.2)) ps)
  (hl : look T t = some ti) (hd : ti.d = .struct fs) (hz : ti.zero = some zs) (hnz : fs.all (fun x => !Nat.beq x.2.1 0) = true) (h : FillP fs (parts.toList.map (·.1)) ps (zs.map .v) es) :
  FStep P ⟨dst, .build t parts, ty, pos, aft, g⟩ S [] ⟨.agg es, []⟩ := by
 refine FStep.val fun fr S' L a w ht hn hR => ?_
 have h1 := hx.rep hγ hR (fun x hm t e => ht x (by
  simp only [Op.operands]
  exact Array.mem_toList_iff.1 (by simpa using hm)) t e)
 obtain ⟨fields, hu, hfs⟩ := und_struct hT hl hd
 obtain ⟨z, hzr, hzc, _⟩ := zero_of hT hl hz w
 have hnz' : ∀ x ∈ fs, x.2.1 ≠ 0 := fun x hx' e => by
  have := (List.all_eq_true.1 hnz) x hx'
  rw [e] at this; simp at this
 have hinfo : ∀ f ∈ fields.toList, ∃ i, P.info? f.type = some i := fun f hf => by
  have hm : (f.offset, if f.name = "_" then 0 else P.cellsOf f.type, f.type) ∈ fs := by rw [hfs]; exact List.mem_map_of_mem hf
  have := hnz' _ hm
  simp only at this
  cases hi : P.info? f.type with
  | none => simp [Program.cellsOf, hi] at this
  | some i => exact ⟨i, rfl⟩
 have hplaces : (fields.mapM (fun f => do pure (f.offset, ← sizeOf f.type) : Field → Sem (Nat × Nat))).run P w = .ok (fields.toList.map fun f => (f.offset, P.cellsOf f.type)).toArray w := by
  rw [Array.mapM_eq_mapM_toList]
  simp only [Sem.run_map, run_places fields.toList hinfo w, Result.andThen_ok]
 obtain ⟨out, k1, k2⟩ := fill_sound (pl := fun i => (fields.toList.map fun f => (f.offset, P.cellsOf f.type)).toArray[i]?) (fun i off sz ft hi hz => by
  rw [hfs, List.getElem?_map] at hi
  cases hg : fields.toList[i]? with
  | none => rw [hg] at hi; simp at hi
  | some f =>
   rw [hg] at hi
   simp only [Option.map_some, Option.some.injEq, Prod.mk.injEq] at hi
   obtain ⟨g1, g2, _⟩ := hi
   have hf2 : fields[i]? = some f := by rw [← Array.getElem?_toList]; exact hg
   split at g2
   ·exact absurd g2.symm hz
   ·simp [hf2, g1, g2]) hnz' (cells := zs.toArray) h h1 (by simpa using repL_map_v w (fr.F L) L zs)
 refine ⟨.agg out, ?_, by simpa using Rep.agg k2⟩
 have hpl : (parts.map fun x => (x.1, a.eval x.2)).toList = (parts.toList.map (·.1)).zip ((parts.toList.map (·.2)).map a.eval) := by
  rw [Array.toList_map, List.map_map, List.zip_map']
  rfl
 simp only [execOp, Instr.build, Sem.run_bind, hzr, Result.andThen_ok, run_underlying hu, hplaces, hzc, hpl, k1]
 simp
theorem Loc.le_map {b : Nat} {l' : Loc} (h : (Loc.map b).le l') (hr : l'.range = (Loc.map b).range) : l' = .map b := by
 cases l' with
 | iter b' => have := h.1 0 (.map (some b)) rfl; simp [Loc.refAt] at this
 | map b' => simp [Loc.range] at hr; rw [hr]
 | gone => simp [Loc.range] at hr
 | box b' o n => have := h.1 0 (.map (some b)) rfl; simp [Loc.refAt] at this
 | arr base n cap sz => have := (h.2.1 0 0 (n + 1) undef trivial).1; omega
theorem R.write (hR : R fr S L a w) {o b lo n q : Nat} {l l' : Loc} {ob' : SObj} {vs : List Value} (hl : L o = some l) (hr : l.range = some (b, lo, n)) (hb : l.blk = some b) (hq : lo ≤ q ∧ q + vs.length ≤ lo + n) (hle : l.le l') (hr' : l'.range = l.range) (hb' : l'.blk = l.blk) (hone : l.one = true → l'.one = true) (hni : ∀ b', l ≠ .iter b')
  (hob : ∀ (_ : Ext w (fr.F L) (w.setCells b q vs) (fr.F (L.set o l'))) (_ : LExt L (L.set o l')), ObjAt (w.setCells b q vs) (fr.F (L.set o l')) (L.set o l') ob' l') :
  R fr (S.upd [(o, ob')]) (L.set o l') a (w.setCells b q vs) ∧ Ext w (fr.F L) (w.setCells b q vs) (fr.F (L.set o l')) ∧ LExt L (L.set o l') := by
 have ht := Touch.setCells b lo n vs w q hq.1 hq.2
 obtain ⟨_, hp⟩ := hR.mem.place o l b hl hb
 refine R.step' hR o ob' l' (hR.mem.frame.touch ht ?_ ?_) (by rw [ht.size]; exact Nat.le_refl _) (fun k hk hne => ht.other k (fun e => hne l hl (by rw [hb, e]))) (fun l0 h => by rw [hl] at h; cases h; exact hle)
  (fun b' hb2 => .inl ⟨l, hl, by rw [← hb', hb2], hr'.symm⟩) (fun p hp2 => ?_) hob
 ·rcases hp with hp | ⟨p, hp1, hp2⟩
  ·exact .inl hp.1
  ·rw [hr] at hp2; cases hp2; exact .inr hp1
 ·intro p hp1 hpb
  rcases hp with hp | ⟨p', hp1', hp2⟩
  ·have := hR.mem.parLt.1 p hp1; omega
  ·rw [hr] at hp2; cases hp2
   exact hR.mem.parLt.2 p hp1 _ hp1' hpb
 ·rw [hr', hr] at hp2; cases hp2
  rcases hR.mem.kind o l _ hl hr with ⟨c, e, f, hc, hf⟩ | ⟨hm, ob, hc, hno⟩
  ·obtain ⟨c', h1, h2, _⟩ := ht.block c e f hc
   exact .inl ⟨c', e, f, h1, by rw [h2]; exact hf.imp id fun h => ⟨hone h.1, h.2⟩⟩
  ·have := ht.rest fun c e f hc' => by rw [hc] at hc'; exact hno _ _ _ (Option.some.inj hc')
   have hm := hm.resolve_right (hni _)
   subst hm
   exact .inr ⟨.inl (Loc.le_map hle hr'), ob, this.trans hc, hno⟩
theorem cells_setCells {b q : Nat} {vs : List Value} (hc : ∀ j, j < vs.length → (w.cell? ⟨b, q + j, none⟩).isSome = true) (k : Nat) : (w.setCells b q vs).cell? ⟨b, k, none⟩ = if q ≤ k ∧ k < q + vs.length then vs[k - q]? else w.cell? ⟨b, k, none⟩ := by
 split
 ·rename_i h
  have := World.cell?_setCells_in b vs q w hc (k - q) (by omega)
  rw [show q + (k - q) = k by omega] at this
  rw [this, List.getElem?_eq_getElem (by omega)]
 ·rename_i h
  exact World.cell?_setCells_out b vs q w ⟨b, k, none⟩ (fun _ _ => by simp only; omega)
def cellsOkL (cs : List PV) : Bool := cs.all cellOk
theorem repL_one {F : Nat → Prop} {L : LMap} : ∀ {cs : List PV} {vs : List Value}, RepL w F L cs vs → cellsOkL cs = true → ∀ v ∈ vs, v.oneCell' = true
 | [], _, h, _ => by cases h; simp
 | c :: cs, _, h, hc => by
  simp only [cellsOkL, List.all_cons, Bool.and_eq_true] at hc
  cases h with
  | cons h1 h2 =>
   intro v hv
   rcases List.mem_cons.1 hv with rfl | hv
   ·exact rep_one h1 hc.1
   ·exact repL_one h2 hc.2 v hv
inductive ElemR : PV → List PV → PV → Prop
 | agg {cs ds : List PV} : ElemR (.agg cs) ds (.agg ds)
 | one {c d : PV} : cellOk d = true → ElemR c [d] d
theorem ElemR.cells {e e' : PV} {ds : List PV} (h : ElemR e ds e') : e'.cells = ds := by
 cases h with
 | agg => rfl
 | one h => cases e' <;> first | (simp [cellOk] at h; done) | rfl
inductive StoreR (S : St) : PV → List PV → Nat → SObj → Prop
 | ref {o k : Nat} {cs vs ds : List PV} : S.obj o = some (.box cs) → SpliceR k vs cs ds → StoreR S (.ref o k) vs o (.box ds)
 | eref {o i k n sz : Nat} {isnil : Bool} {es vs ds : List PV} {e e' : PV} : S.obj o = some (.arr sz isnil es) → Side (n = es.length) → es[i]? = some e → SpliceR k vs e.cells ds → ElemR e ds e' →
   StoreR S (.eref o i k n) vs o (.arr sz isnil (es.set i e'))
theorem cellsOf_set {sz i : Nat} {e e' : PV} {es : List PV} (hs : ∀ e ∈ es, e.cells.length = sz) (he : es[i]? = some e) (he' : e'.cells.length = sz) : cellsOf (es.set i e') = (cellsOf es).take (i * sz) ++ e'.cells ++ (cellsOf es).drop (i * sz + sz) := by
 induction es generalizing i with
 | nil => simp at he
 | cons x r ih =>
  have hx := hs x (by simp)
  cases i with
  | zero =>
   simp at he; subst he
   simp only [List.set_cons_zero, cellsOf, List.flatMap_cons, Nat.zero_mul, List.take_zero, List.nil_append, Nat.zero_add]
   rw [List.drop_left' hx]
  | succ i =>
   have := ih (i := i) (fun e h => hs e (by simp [h])) (by simpa using he)
   simp only [List.set_cons_succ, cellsOf, List.flatMap_cons] at this ⊢
   rw [this]
   have e1 : (i + 1) * sz = x.cells.length + i * sz := by rw [Nat.succ_mul, hx]; omega
   rw [e1, List.take_length_add_append, Nat.add_assoc, List.drop_length_add_append]
   simp
theorem F_store [Globs P] (hT : TOk P T) (hγ : γ = true) {t : TypeId} {x y : Operand} {p v : PV} {o : Nat} {ob : SObj} {ti : TI} (hx : OpdO γ S x p) (hy : OpdO γ S y v) (hl : look T t = some ti) (hsz : Nat.beq v.cells.length ti.size = true) (hrow : rowOk v = true) (hcs : cellsOkL v.cells = true)
  (h : StoreR S p v.cells o ob) : FStep P ⟨none, .store t x y, ty, pos, aft, g⟩ S [o] ⟨.v undef, [(o, ob)]⟩ := by
 intro fr S' ht hn L a w hR hG Q
 have hsz := Nat.eq_of_beq_eq_true hsz
 have hp := hx.rep hγ hR (fun t e => ht t (mem_tmps (x := x) (by simp [Op.operands]) t e))
 have hv := hy.rep hγ hR (fun t e => ht t (mem_tmps (x := y) (by simp [Op.operands]) t e))
 have hvc := rep_cells hv hrow
 have hvl := rep_cells_len hv hrow
 have hone := repL_one hvc hcs
 generalize hvs : (a.eval y).cells.toList = vs at hvc hone
 have hvlen : vs.length = v.cells.length := by rw [← hvs]; simpa using hvl
 have fin : ∀ b q, a.eval x = .pointer (some ⟨b, q, none⟩) → (∀ j, j < vs.length → ∃ x, w.cell? ⟨b, q + j, none⟩ = some x ∧ w.frozen? ⟨b, q + j, none⟩ = false) →
   (execOp a.eval ⟨none, .store t x y, ty, pos, aft, g⟩).run P w = .ok .skip (w.setCells b q vs) := by
  intro b q hb hc
  have h1 := run_storeCells_cells (P := P) b q vs 0 w (fun j hj => by obtain ⟨x, hx, _⟩ := hc j hj; simp [hx]) (fun j hj => by obtain ⟨x, _, hx⟩ := hc j hj; simpa using hx) hone
  have h2 : (a.eval y).cells.size = ti.size := by rw [hvl, hsz]
  simp only [Nat.add_zero] at h1
  simp [execOp, Instr.storeAt, hb, Instr.sureAddr, storeVar, size_of hT hl, h2, hvs, h1]
 generalize hvcl : v.cells = vc at h hvc hvlen
 cases h with
 | @ref _ k cs _ ds ho hs =>
  obtain ⟨s1, s2, s3⟩ := hs.spec
  obtain ⟨b, off, hl', hcells⟩ := hR.box ((hn _ (by simp)).trans ho)
  have hpa := hp.ref_at hl'
  have hc : ∀ j, j < vs.length → ∃ x, w.cell? ⟨b, off + k + j, none⟩ = some x ∧ w.frozen? ⟨b, off + k + j, none⟩ = false := fun j hj => by
   have hjl : k + j < cs.length := by omega
   obtain ⟨x, k1, k2, _⟩ := hcells (k + j) _ (List.getElem?_eq_getElem hjl)
   exact ⟨x, by rw [Nat.add_assoc]; exact k1, by rw [Nat.add_assoc]; exact k2⟩
  have hW := R.write hR (o := o) (b := b) (lo := off) (n := cs.length) (q := off + k) (l := .box b off cs.length) (l' := .box b off cs.length) (ob' := .box ds) (vs := vs) hl' rfl rfl ⟨by omega, by omega⟩ (Loc.le_refl _) rfl rfl id (by intro b h; cases h) (fun hext hlx => by
   refine ⟨s3.symm, fun j c hj => ?_⟩
   have hcs := cells_setCells (w := w) (b := b) (q := off + k) (vs := vs) (fun j hj => by obtain ⟨x, hx, _⟩ := hc j hj; simp [hx]) (off + j)
   rw [hcs, World.frozen?_setCells]
   rw [s1, List.getElem?_append, List.length_append, List.length_take, Nat.min_eq_left (by omega)] at hj
   split at hj
   ·rename_i hlt
    rw [List.getElem?_append, List.length_take, Nat.min_eq_left (by omega)] at hj
    split at hj
    ·rename_i hlt2
     rw [List.getElem?_take, if_pos hlt2] at hj
     rw [if_neg (by omega)]
     obtain ⟨x, k1, k2, k3⟩ := hcells j c hj
     exact ⟨x, k1, k2, k3.mono hext hlx⟩
    ·rename_i hlt2
     obtain ⟨x, k1, k2⟩ := repL_get hvc _ _ hj
     have hjl : j < cs.length := by omega
     obtain ⟨_, _, k4, _⟩ := hcells j _ (List.getElem?_eq_getElem hjl)
     exact ⟨x, by rw [if_pos ⟨by omega, by omega⟩, show off + j - (off + k) = j - k by omega]; exact k1, k4, k2.mono hext hlx⟩
   ·rename_i hlt
    rw [List.getElem?_drop, show k + vc.length + (j - (k + vc.length)) = j by omega] at hj
    rw [if_neg (by omega)]
    obtain ⟨x, k1, k2, k3⟩ := hcells j c hj
    exact ⟨x, k1, k2, k3.mono hext hlx⟩)
  unfold Oper.wp
  rw [fin b (off + k) hpa hc, Oper.upon_skip]
  exact ⟨undef, _, rfl, hW.1, .v _ _⟩
 | @eref _ i k n sz isnil es _ ds e e' ho hs he hsp hel =>
  obtain ⟨s1, s2, s3⟩ := hsp.spec
  obtain ⟨base, cap, hl', hcap, hnil, hes, hcells⟩ := hR.arr ((hn _ (by simp)).trans ho)
  obtain ⟨b, off, rfl, hi, hpa⟩ := hp.eref_at hl' hs
  have hesz := hes e (List.mem_of_getElem? he)
  have he' : e'.cells.length = sz := by rw [hel.cells, s3, hesz]
  have hbound : i * sz + sz ≤ cap * sz := by rw [← Nat.succ_mul]; exact Nat.mul_le_mul_right _ (by omega)
  have hbound2 : i * sz + sz ≤ es.length * sz := by rw [← Nat.succ_mul]; exact Nat.mul_le_mul_right _ (by omega)
  have hclen := cellsOf_length hes
  have hc : ∀ j, j < vs.length → ∃ x, w.cell? ⟨b, off + i * sz + k + j, none⟩ = some x ∧ w.frozen? ⟨b, off + i * sz + k + j, none⟩ = false := fun j hj => by
   have := hcells.2 (i * sz + k + j) (by omega)
   simpa [Nat.add_assoc] using this
  have hW := R.write hR (o := o) (b := b) (lo := off) (n := cap * sz) (q := off + i * sz + k) (l := .arr (some (b, off)) es.length cap sz) (l' := .arr (some (b, off)) es.length cap sz) (ob' := .arr sz isnil (es.set i e')) (vs := vs) hl' rfl rfl ⟨by omega, by omega⟩ (Loc.le_refl _) rfl rfl id (by intro b h; cases h) (fun hext hlx => by
   have hcsA := fun j => cells_setCells (w := w) (b := b) (q := off + i * sz + k) (vs := vs) (fun j hj => by obtain ⟨x, hx, _⟩ := hc j hj; simp [hx]) (off + j)
   refine ⟨rfl, by simp, hcap, hnil, fun x hx => ?_, fun j c hj => ?_, fun j hj => ?_⟩
   ·rcases List.mem_or_eq_of_mem_set hx with hx | rfl
    ·exact hes x hx
    ·exact he'
   ·rw [hcsA j, World.frozen?_setCells]
    rw [cellsOf_set hes he he', hel.cells] at hj
    have hdl : ds.length = sz := by rw [s3, hesz]
    rw [List.getElem?_append, List.length_append, List.length_take, Nat.min_eq_left (by omega), hdl] at hj
    split at hj
    ·rename_i hlt
     rw [List.getElem?_append, List.length_take, Nat.min_eq_left (by omega)] at hj
     split at hj
     ·rename_i hlt2
      rw [List.getElem?_take, if_pos hlt2] at hj
      rw [if_neg (by omega)]
      obtain ⟨x, k1, k2, k3⟩ := hcells.1 j c hj
      exact ⟨x, k1, k2, k3.mono hext hlx⟩
     ·rename_i hlt2
      obtain ⟨_, g0⟩ := hcells.2 j (by omega)
      rw [s1, List.getElem?_append, List.length_append, List.length_take, Nat.min_eq_left (by omega)] at hj
      split at hj
      ·rename_i hlt3
       rw [List.getElem?_append, List.length_take, Nat.min_eq_left (by omega)] at hj
       split at hj
       ·rename_i hlt4
        rw [List.getElem?_take, if_pos hlt4] at hj
        have := cellsOf_get hes he hj
        rw [show i * sz + (j - i * sz) = j by omega] at this
        rw [if_neg (by omega)]
        obtain ⟨x, k1, k2, k3⟩ := hcells.1 j c this
        exact ⟨x, k1, k2, k3.mono hext hlx⟩
       ·rename_i hlt4
        obtain ⟨x, k1, k2⟩ := repL_get hvc _ _ hj
        exact ⟨x, by rw [if_pos ⟨by omega, by omega⟩, show off + j - (off + i * sz + k) = j - i * sz - k by omega]; exact k1, g0.2, k2.mono hext hlx⟩
      ·rename_i hlt3
       rw [List.getElem?_drop, show k + vc.length + (j - i * sz - (k + vc.length)) = j - i * sz by omega] at hj
       have := cellsOf_get hes he hj
       rw [show i * sz + (j - i * sz) = j by omega] at this
       rw [if_neg (by omega)]
       obtain ⟨x, k1, k2, k3⟩ := hcells.1 j c this
       exact ⟨x, k1, k2, k3.mono hext hlx⟩
    ·rename_i hlt
     rw [List.getElem?_drop, show i * sz + sz + (j - (i * sz + sz)) = j by omega] at hj
     rw [if_neg (by omega)]
     obtain ⟨x, k1, k2, k3⟩ := hcells.1 j c hj
     exact ⟨x, k1, k2, k3.mono hext hlx⟩
   ·rw [hcsA j, World.frozen?_setCells]
    obtain ⟨x, k1, k2⟩ := hcells.2 j hj
    split
    ·exact ⟨vs[off + j - (off + i * sz + k)]'(by omega), List.getElem?_eq_getElem _, k2⟩
    ·exact ⟨x, k1, k2⟩)
  unfold Oper.wp
  rw [fin b (off + i * sz + k) hpa hc, Oper.upon_skip]
  exact ⟨undef, _, rfl, hW.1, .v _ _⟩
end
end Go.Sym
