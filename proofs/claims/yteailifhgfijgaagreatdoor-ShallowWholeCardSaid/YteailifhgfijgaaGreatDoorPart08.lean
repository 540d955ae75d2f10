/- A part of the proof: SymK. -/
import Derived.Test.YteailifhgfijgaaGreatDoorPart07
set_option linter.unusedVariables false
set_option linter.unusedSimpArgs false
namespace Go.Sym
open Go.RowKit
section
variable {P : Program} {T : Tbl} {fr : Fr} {S S' : St} {L : LMap} {a : Act} {w : World} {γ : Bool}
variable {ty : Nat} {pos : String} {aft : Array Edge} {g : Option (Nat × Bool)}
def srcD (d : TypeDesc) : Prop := d = .string ∨ ∃ e, d = .slice e
theorem run_append_room' {t t2 ty e sz n m cap : Nat} {d2 : TypeDesc} (ht : P.underlying t = some (.slice e)) (ht2 : P.underlying t2 = some d2) (hd2 : srcD d2) (hsz : ∀ w, (sizeOf e).run P w = .ok sz w) {x : Value} {news : List Value} {base : Option Addr} {w' : World}
  (hlen : (Builtin.lenOf x).run P w = .ok m w) (hfirst : (Builtin.firstCells sz m x).run P w = .ok news.toArray w) (hroom : n + m ≤ cap) (hst : match base with | none => w' = w | some a => (storeCells (a.add (n * sz)) news).run P w = .ok () w') :
  (Builtin.append_ #[t, t2] ty #[.slice base n cap, x]).run P w = .ok (.slice base (n + m) cap) w' := by
 cases base with
 | none =>
  subst hst
  rcases hd2 with rfl | ⟨e2, rfl⟩
  ·simp [Builtin.append_, run_underlying ht, run_underlying ht2, hsz, hlen, hroom, hfirst]
  ·simp [Builtin.append_, run_underlying ht, run_underlying ht2, hsz, hlen, hroom, hfirst]
 | some ad =>
  simp only at hst
  rcases hd2 with rfl | ⟨e2, rfl⟩
  ·simp [Builtin.append_, run_underlying ht, run_underlying ht2, hsz, hlen, hroom, hfirst, hst]
  ·simp [Builtin.append_, run_underlying ht, run_underlying ht2, hsz, hlen, hroom, hfirst, hst]
theorem run_append_grow' {t t2 ty e n m cap : Nat} {d2 : TypeDesc} {i : TypeInfo} {z : Value} (ht : P.underlying t = some (.slice e)) (ht2 : P.underlying t2 = some d2) (hd2 : srcD d2) (hi : P.info? e = some i) (hz : i.zero = some z) {x : Value} {news old : List Value} {base : Option Addr}
  (hlen : (Builtin.lenOf x).run P w = .ok m w) (hfirst : (Builtin.firstCells i.size m x).run P w.drew = .ok news.toArray w.drew) (hold : (Builtin.firstCells i.size n (.slice base n cap)).run P w.drew = .ok old.toArray w.drew) (hroom : ¬ (n + m ≤ cap))
  (h63 : n + m ≤ 9223372036854775807) (hb : (n + m) * i.bytes ≤ 140737488355328) :
  (Builtin.append_ #[t, t2] ty #[.slice base n cap, x]).run P w = .ok (.slice (some ⟨w.heap.size, 0, none⟩) (n + m) (grownCap w (n + m) cap e))
   (w.drew.alloc (.cells (old.toArray ++ news.toArray ++ Builtin.zeroCells z.cells (grownCap w (n + m) cap e - (n + m))) e)) := by
 have h63' : ¬ ((9223372036854775807 : Int) < (n : Int) + (m : Int)) := by omega
 have h48' : ¬ (281474976710656 < Builtin.nextslicecap (n + m) cap * i.bytes) := Nat.not_lt.2 (growslice_fits (by omega) hb)
 rcases hd2 with rfl | ⟨e2, rfl⟩
 ·simp [Builtin.append_, run_underlying ht, run_underlying ht2, sizeOf, typeInfo, zeroValue, hi, hz, hlen, hroom, h63', h48', Question.forced, hfirst, hold, newRow, grownCap]
  congr 2; apply Array.ext'; simp [List.append_assoc]
 ·simp [Builtin.append_, run_underlying ht, run_underlying ht2, sizeOf, typeInfo, zeroValue, hi, hz, hlen, hroom, h63', h48', Question.forced, hfirst, hold, newRow, grownCap]
  congr 2; apply Array.ext'; simp [List.append_assoc]
inductive SrcR (S : St) : TD → Nat → PV → List Nat → List PV → Prop
 | sl {e : TypeId} {nl : Bool} {sz : Nat} {es : List PV} : SrcR S (.slice e) sz (.sl nl sz es) [] es
 | full {e : TypeId} {o n sz : Nat} {isnil : Bool} {es : List PV} : S.obj o = some (.arr sz isnil es) → Side (n = es.length) → SrcR S (.slice e) sz (.osl o 0 n n) [o] es
 | part {e : TypeId} {o off len n sz : Nat} {isnil : Bool} {es : List PV} : S.obj o = some (.arr sz isnil es) → Side (n = es.length) → SrcR S (.slice e) sz (.osl o off len n) [o] ((es.drop off).take len)
 | nil {e : TypeId} {sz : Nat} : SrcR S (.slice e) sz nilS [] []
 | str {l : List UInt8} : SrcR S .str 1 (sV l) [] (l.map fun b => .v (.int .u8 (b.toNat : Int)))
theorem Rows.cellsAt {F : Nat → Prop} {sz b : Nat} : ∀ {es : List PV} {off : Nat}, Rows w F sz es b off → ∀ (j : Nat) (c : PV), (cellsOf es)[j]? = some c → ∃ x, w.cell? ⟨b, off + j, none⟩ = some x ∧ Rep w F noL c x
 | [], _, _, j, c, hc => by simp [cellsOf] at hc
 | e :: es, off, h, j, c, hc => by
  cases h with
  | cons h1 h2 h3 =>
   simp only [cellsOf, List.flatMap_cons] at hc
   rw [List.getElem?_append] at hc
   split at hc
   ·obtain ⟨x, k1, _, k3⟩ := h2.get j c hc
    exact ⟨x, k1, k3⟩
   ·obtain ⟨x, k1, k2⟩ := h3.cellsAt _ _ hc
    exact ⟨x, by rw [show off + j = off + sz + (j - e.cells.length) by omega]; exact k1, k2⟩
theorem Rows.len {F : Nat → Prop} {sz b : Nat} : ∀ {es : List PV} {off : Nat}, Rows w F sz es b off → ∀ e ∈ es, e.cells.length = sz
 | [], _, _, e, he => by simp at he
 | x :: es, off, h, e, he => by
  cases h with
  | cons h1 h2 h3 =>
   rcases List.mem_cons.1 he with rfl | he
   ·exact h1
   ·exact h3.len e he
theorem cellsOf_drop {sz : Nat} : ∀ {es : List PV} (_ : ∀ e ∈ es, e.cells.length = sz) (k : Nat), cellsOf (es.drop k) = (cellsOf es).drop (k * sz)
 | es, _, 0 => by simp
 | [], _, k + 1 => by simp [cellsOf]
 | x :: r, hs, k + 1 => by
  have hx := hs x (by simp)
  rw [List.drop_succ_cons, cellsOf_drop (fun e he => hs e (by simp [he])) k]
  simp only [cellsOf, List.flatMap_cons]
  rw [show (k + 1) * sz = x.cells.length + k * sz by rw [Nat.succ_mul, hx]; omega, List.drop_length_add_append]
theorem cellsOf_take {sz : Nat} : ∀ {es : List PV} (_ : ∀ e ∈ es, e.cells.length = sz) (k : Nat), cellsOf (es.take k) = (cellsOf es).take (k * sz)
 | es, _, 0 => by simp [cellsOf]
 | [], _, k + 1 => by simp [cellsOf]
 | x :: r, hs, k + 1 => by
  have hx := hs x (by simp)
  rw [List.take_succ_cons]
  have := cellsOf_take (es := r) (fun e he => hs e (by simp [he])) k
  simp only [cellsOf, List.flatMap_cons] at this ⊢
  rw [this, show (k + 1) * sz = x.cells.length + k * sz by rw [Nat.succ_mul, hx]; omega, List.take_length_add_append]
theorem cellsOf_append (a b : List PV) : cellsOf (a ++ b) = cellsOf a ++ cellsOf b := by simp [cellsOf]
theorem run_firstCells_list {sz m c : Nat} {b q : Nat} {xs : List Value} (hl : xs.length = m * sz) (hx : ∀ (j : Nat) v, xs[j]? = some v → w.cell? ⟨b, q + j, none⟩ = some v) (k : Nat) : (Builtin.firstCells sz m (.slice (some ⟨b, q, none⟩) k c)).run P w = .ok xs.toArray w :=
 run_firstCells_some w sz m ⟨b, q, none⟩ k c xs hl (fun j v hv => by rw [Addr.add_lit]; exact hx j v hv)
theorem run_firstCells_take {sz m c : Nat} {b q : Nat} {xs : List Value} (hl : xs.length = m * sz) (hx : ∀ (j : Nat) v, xs[j]? = some v → w.cell? ⟨b, q + j, none⟩ = some v) (n k : Nat) (hk : k ≤ m) : (Builtin.firstCells sz k (.slice (some ⟨b, q, none⟩) n c)).run P w = .ok (xs.take (k * sz)).toArray w :=
 run_firstCells_list (by rw [List.length_take, hl, Nat.min_eq_left (Nat.mul_le_mul_right _ hk)]) (fun j v hv => by
  rw [List.getElem?_take] at hv
  split at hv
  ·exact hx j v hv
  ·simp at hv) n
theorem SrcR.sound {td : TD} {sz : Nat} {p : PV} {rn : List Nat} {xs : List PV} (h : SrcR S td sz p rn xs) (hR : R fr S' L a w) (hn : ∀ n ∈ rn, S'.obj n = S.obj n) {x : Value} (hx : Rep w (fr.F L) L p x) :
  ∃ news : List Value, (Builtin.lenOf x).run P w = .ok xs.length w ∧ (Builtin.firstCells sz xs.length x).run P w = .ok news.toArray w ∧ (Builtin.firstCells sz xs.length x).run P w.drew = .ok news.toArray w.drew ∧ RepL w (fr.F L) L (cellsOf xs) news ∧ (∀ e ∈ xs, e.cells.length = sz) ∧ (∀ k, k ≤ xs.length → (Builtin.firstCells sz k x).run P w = .ok (news.take (k * sz)).toArray w) := by
 cases h with
 | sl =>
  cases hx with
  | slNil => exact ⟨[], by simp [Builtin.lenOf], by simp [Builtin.firstCells], by simp [Builtin.firstCells], .nil _, by simp, fun k _ => by simp [Builtin.firstCells]⟩
  | slE => exact ⟨[], by simp [Builtin.lenOf], by simp [Builtin.firstCells, loadCells, loadCellsFrom], by simp [Builtin.firstCells, loadCells, loadCellsFrom], .nil _, by simp, fun k hk => by have hk0 : k = 0 := (by simpa using hk); subst hk0; simp [Builtin.firstCells, loadCells, loadCellsFrom]⟩
  | sl k1 k2 k3 =>
   rename_i es b off n cap
   obtain ⟨vs, g1, g2, g3⟩ := cells_list (w := w) (F := fr.F L) (L := L) (b := b) (ds := cellsOf xs) (o := off) (fun j c hc => by
    obtain ⟨y, m1, m2⟩ := k3.cellsAt j c hc
    exact ⟨y, m1, m2.ofNoL⟩)
   have hlen : vs.length = xs.length * sz := by rw [g1, cellsOf_length k3.len]
   exact ⟨vs, by simp [Builtin.lenOf, k1], run_firstCells_list hlen g3 _, run_firstCells_list (w := w.drew) hlen g3 _, g2, k3.len, run_firstCells_take hlen g3 _⟩
 | full ho hs =>
  rename_i e o n isnil
  obtain ⟨base, cap, hl', hcap, hnil, hes, hcells⟩ := hR.arr ((hn _ (by simp)).trans ho)
  obtain ⟨s1, s2⟩ := hx.osl_at hl' hs
  have hs' : n = xs.length := hs
  cases base with
  | none =>
   simp only at hcells
   have h0 : xs = [] := List.eq_nil_of_length_eq_zero (by omega)
   subst h0
   simp at s2
   subst s2
   exact ⟨[], by simp [Builtin.lenOf], by simp [Builtin.firstCells], by simp [Builtin.firstCells], .nil _, by simp, fun k _ => by simp [Builtin.firstCells]⟩
  | some bo =>
   obtain ⟨b, off0⟩ := bo
   obtain ⟨off, c, rfl, hlc, hpos, hq0, hcc⟩ := s2
   obtain rfl := hq0 rfl
   rw [Nat.sub_zero] at hcc
   subst hcc
   obtain ⟨vs, g1, g2, g3⟩ := cells_list (w := w) (F := fr.F L) (L := L) (b := b) (ds := cellsOf xs) (o := off) (fun j c hc => by
    obtain ⟨y, m1, _, m2⟩ := hcells.1 j c hc
    exact ⟨y, m1, m2⟩)
   have hlen : vs.length = xs.length * sz := by rw [g1, cellsOf_length hes]
   exact ⟨vs, by simp [Builtin.lenOf, hs'], run_firstCells_list hlen g3 _, run_firstCells_list (w := w.drew) hlen g3 _, g2, hes, run_firstCells_take hlen g3 _⟩
 | part ho hs =>
  rename_i e o off len n isnil es
  obtain ⟨base, cap, hl', hcap, hnil, hes, hcells⟩ := hR.arr ((hn _ (by simp)).trans ho)
  obtain ⟨s1, s2⟩ := hx.osl_at hl' hs
  have hs' : n = es.length := hs
  have hlen0 : ((es.drop off).take len).length = len := by simp; omega
  have hes2 : ∀ e ∈ (es.drop off).take len, e.cells.length = sz := fun e he => hes e (List.mem_of_mem_drop (List.mem_of_mem_take he))
  cases base with
  | none =>
   simp only at hcells
   have h0 : (es.drop off).take len = [] := List.eq_nil_of_length_eq_zero (by omega)
   simp at s2
   subst s2
   rw [h0]
   exact ⟨[], by simp [Builtin.lenOf], by simp [Builtin.firstCells], by simp [Builtin.firstCells], .nil _, by simp, fun k _ => by simp [Builtin.firstCells]⟩
  | some bo =>
   obtain ⟨b, off0⟩ := bo
   obtain ⟨ad, c, rfl, hlc, hpos, hq0, hcc⟩ := s2
   by_cases hz : len = 0
   ·subst hz
    simp only [List.take_zero, List.length_nil]
    exact ⟨[], by simp [Builtin.lenOf], by simp [Builtin.firstCells, loadCells, loadCellsFrom], by simp [Builtin.firstCells, loadCells, loadCellsFrom], .nil _, by simp, fun k hk => by have hk0 : k = 0 := (by simpa using hk); subst hk0; simp [Builtin.firstCells, loadCells, loadCellsFrom]⟩
   ·have := hpos (by omega)
    subst this
    obtain ⟨vs, g1, g2, g3⟩ := cells_list (w := w) (F := fr.F L) (L := L) (b := b) (ds := cellsOf ((es.drop off).take len)) (o := off0 + off * sz) (fun j c hc => by
     rw [cellsOf_take (fun e he => hes e (List.mem_of_mem_drop he)), List.getElem?_take] at hc
     split at hc
     ·rw [cellsOf_drop hes, List.getElem?_drop] at hc
      obtain ⟨y, m1, _, m2⟩ := hcells.1 _ c hc
      exact ⟨y, by rw [Nat.add_assoc]; exact m1, m2⟩
     ·simp at hc)
    have hlen : vs.length = ((es.drop off).take len).length * sz := by rw [g1, cellsOf_length hes2]
    exact ⟨vs, by simp [Builtin.lenOf, hlen0], run_firstCells_list hlen g3 _, run_firstCells_list (w := w.drew) hlen g3 _, g2, hes2, run_firstCells_take hlen g3 _⟩
 | nil =>
  have := hx.inv_v
  subst this
  exact ⟨[], by simp [Builtin.lenOf], by simp [Builtin.firstCells], by simp [Builtin.firstCells], .nil _, by simp, fun k _ => by simp [Builtin.firstCells]⟩
 | str =>
  rename_i l
  have := hx.inv_v
  subst this
  have hsz : (⟨⟨l⟩⟩ : ByteArray).size = l.length := rfl
  have hex : (⟨⟨l⟩⟩ : ByteArray).extract 0 l.length = ⟨⟨l⟩⟩ := by
   apply ByteArray.ext; simp [ByteArray.data_extract]
  have hmap : (⟨⟨l⟩⟩ : ByteArray).data.map (fun b => Value.int .u8 (b.toNat : Int)) = (l.map fun b => Value.int .u8 (b.toNat : Int)).toArray := by simp
  refine ⟨l.map fun b => .int .u8 (b.toNat : Int), by simp [Builtin.lenOf, hsz], ?_, ?_, ?_, ?_, fun k hk => ?_⟩
  ·simp [Builtin.firstCells, hex]
  ·simp [Builtin.firstCells, hex]
  ·have : cellsOf (l.map fun b => PV.v (.int .u8 (b.toNat : Int))) = (l.map fun b => Value.int .u8 (b.toNat : Int)).map .v := by
    clear hx hsz hex hmap
    induction l with
    | nil => rfl
    | cons b r ih => simp only [cellsOf, List.map_cons, List.flatMap_cons, PV.cells, List.cons_append, List.nil_append] at ih ⊢; rw [ih]
   rw [this]
   exact repL_map_v _ _ _ _
  ·intro e he
   simp at he
   obtain ⟨b, _, rfl⟩ := he
   rfl
  ·have hex2 : (⟨⟨l⟩⟩ : ByteArray).extract 0 k = ⟨⟨l.take k⟩⟩ := by
    apply ByteArray.ext; simp [ByteArray.data_extract]
   simp [Builtin.firstCells, hex2]
theorem R.moveArr (hR : R fr S L a w) {o sz cap : Nat} {es : List PV} {vs : List Value} (hold : ∀ l0, L o = some l0 → ∃ base n c, l0 = .arr base n c sz ∧ n < es.length) (hes : ∀ e ∈ es, e.cells.length = sz) (hps : RepL w (fr.F L) L (cellsOf es) (vs.take (es.length * sz))) (hlen : vs.length = cap * sz) (hcap : es.length ≤ cap) (e : TypeId) :
  ∃ L', R fr (S.upd [(o, .arr sz false es)]) L' a (w.alloc (.cells vs.toArray e)) ∧ L' o = some (.arr (some (w.heap.size, 0)) es.length cap sz) := by
 refine ⟨L.set o (.arr (some (w.heap.size, 0)) es.length cap sz), (R.step hR o (.arr sz false es) (.arr (some (w.heap.size, 0)) es.length cap sz) (hR.mem.frame.alloc _ hR.mem.parLt.1) (by simp) (fun b hb _ => Below.heap_alloc _ _ _ hb) (fun l0 h => ?_)
  (fun b hb => .inr (by simp [Loc.blk] at hb; subst hb; simp)) (fun b hb => by simp [Loc.blk] at hb; subst hb; exact ⟨_, _, heap_alloc_new w _⟩) (fun hext hl => ⟨rfl, rfl, hcap, rfl, hes, fun j c hc => ?_, fun j hj => ?_⟩)).1, by simp [LMap.set]⟩
 ·obtain ⟨base, n, c, rfl, hn⟩ := hold l0 h
  refine ⟨fun off x _ => trivial, fun off len k x hk => ?_, fun i off k x hk => ?_⟩
  ·exact ⟨by have := hk.1; omega, fun h => by have := hk.1; omega⟩
  ·cases base with
   | none => have hk' : k < n := hk; exact ⟨by omega, fun h => by omega⟩
   | some p => exact ⟨by have := hk.1; omega, fun h => by have := hk.1; omega⟩
 ·obtain ⟨x, h1, h2⟩ := repL_get hps j c hc
  refine ⟨x, ?_, by simp, h2.mono hext hl⟩
  rw [List.getElem?_take] at h1
  split at h1
  ·have := World.cell?_alloc_new w vs.toArray e j
   simp [h1]
  ·simp at h1
 ·have hjl : j < vs.length := by omega
  refine ⟨vs[j], ?_, by simp⟩
  have := World.cell?_alloc_new w vs.toArray e j
  simp [hjl]
inductive DstR (S : St) (k sz : Nat) : PV → Nat → Bool → List PV → Prop
 | own {o n : Nat} {isnil : Bool} {es : List PV} : S.obj o = some (.arr sz isnil es) → Side (n = es.length) → DstR S k sz (.osl o 0 n n) o isnil es
 | nil : S.obj k = none → DstR S k sz nilS k true []
theorem size_zeroCells' {z : Array Value} (n : Nat) : (Builtin.zeroCells z n).size = n * z.size := by simp [Builtin.zeroCells]
theorem F_append [Globs P] (hT : TOk P T) (hγ : γ = true) {k t t2 e : Nat} {x y : Operand} {p q : PV} {o : Nat} {isnil : Bool} {es xs : List PV} {rn : List Nat} {ti ti2 ei : TI} {td2 : TD} {zs : List Value} {sz by_ : Nat} (hx : OpdO γ S x p) (hy : OpdO γ S y q)
  (hl : look T t = some ti) (hd : ti.d = .slice e) (hle : look T e = some ei) (hsz : ei.size = sz) (hby : ei.bytes = by_) (hz : ei.zero = some zs) (hzs : Nat.beq zs.length sz = true) (hl2 : look T t2 = some ti2) (hd2 : ti2.d = td2)
  (hdst : DstR S k sz p o isnil es) (hsrc : SrcR S td2 sz q rn xs) (hcs : Side (cellsOkL (cellsOf xs) = true)) (hbytes : Side ((es.length + xs.length) * by_ ≤ 140737488355328)) (h63 : Side (es.length + xs.length ≤ 9223372036854775807)) :
  FStep P ⟨some k, .call { callee := .builtin .append, args := #[x, y], argTypes := #[t, t2] }, ty, pos, aft, g⟩ S (o :: rn) ⟨.osl o 0 (es ++ xs).length (es ++ xs).length, [(o, .arr sz (isnil && xs.isEmpty) (es ++ xs))]⟩ := by
 intro fr S' ht hn L a w hR hG Q
 obtain ⟨d2, hu2, hd2'⟩ := und_any hT hl2
 have hsrcD : srcD d2 := by
  rw [hd2] at hd2'
  cases hsrc <;> cases d2 <;> simp [TD.of] at hd2' <;> first | exact .inl rfl | exact .inr ⟨_, rfl⟩
 subst hsz
 subst hby
 have hp := hx.rep hγ hR (fun t e => ht t (mem_tmps (x := x) (by simp [Op.operands, Call.operands]) t e))
 have hq := hy.rep hγ hR (fun t e => ht t (mem_tmps (x := y) (by simp [Op.operands, Call.operands]) t e))
 obtain ⟨news, hlen, hf1, hf2, hnews, hxs, _⟩ := hsrc.sound (P := P) hR (fun n h => hn n (by simp [h])) hq
 have hcs' : cellsOkL (cellsOf xs) = true := hcs
 have hone := repL_one hnews hcs'
 have hnl : news.length = xs.length * ei.size := by rw [← repL_length hnews, cellsOf_length hxs]
 have hu := und_slice hT hl hd
 obtain ⟨z, hzr, hzc, info, hi, hiz, his, hib⟩ := zero_of hT hle hz w
 have hzlen : zs.length = ei.size := Nat.eq_of_beq_eq_true hzs
 have hb' : (es.length + xs.length) * ei.bytes ≤ 140737488355328 := hbytes
 have h63' : es.length + xs.length ≤ 9223372036854775807 := h63
 have key : ∀ v v' w', a.eval x = v → (Builtin.append_ #[t, t2] ty #[v, a.eval y]).run P w = .ok v' w' →
   (execOp a.eval ⟨some k, .call { callee := .builtin .append, args := #[x, y], argTypes := #[t, t2] }, ty, pos, aft, g⟩).run P w = .ok (.value v') w' := by
  intro v v' w' hv hr
  simp only [execOp, resolve, Sem.run_bind, Sem.run_pure, Result.andThen_ok, invoke, builtin]
  simp [hv, hr]
 have move : ∀ (base : Option Addr) (cap : Nat) (old : List Value), a.eval x = .slice base es.length cap → ¬ (es.length + xs.length ≤ cap) → (Builtin.firstCells ei.size es.length (.slice base es.length cap)).run P w.drew = .ok old.toArray w.drew →
   RepL w (fr.F L) L (cellsOf es) old → (∀ e ∈ es, e.cells.length = ei.size) → (∀ l0, L o = some l0 → ∃ base n c, l0 = .arr base n c ei.size ∧ n < (es ++ xs).length) → xs ≠ [] →
   Oper.wp P ⟨some k, .call { callee := .builtin .append, args := #[x, y], argTypes := #[t, t2] }, ty, pos, aft, g⟩ a w
    (fun a' w' => ∃ x L', a' = a.put (some k) x ∧ R fr (S'.upd [(o, .arr ei.size (isnil && xs.isEmpty) (es ++ xs))]) L' a w' ∧ Rep w' (fr.F L') L' (.osl o 0 (es ++ xs).length (es ++ xs).length) x) Q := by
  intro base cap old hv hroom hold hrold hes hlold hne
  have hr := run_append_grow' (ty := ty) hu hu2 hsrcD hi hiz hlen (by rw [his]; exact hf2) (by rw [his]; exact hold) hroom h63' (by rw [hib]; exact hb')
  have hge := grownCap_ge w (es.length + xs.length) cap e
  have hol : old.length = es.length * ei.size := by rw [← repL_length hrold, cellsOf_length hes]
  obtain ⟨L', h1, h2⟩ := R.moveArr (hR.drew) (o := o) (sz := ei.size) (cap := grownCap w (es.length + xs.length) cap e) (es := es ++ xs) (vs := old ++ news ++ (Builtin.zeroCells z.cells (grownCap w (es.length + xs.length) cap e - (es.length + xs.length))).toList) hlold
   (fun e he => (List.mem_append.1 he).elim (hes e) (hxs e))
   (by
    rw [List.length_append, List.take_left' (by rw [List.length_append, hol, hnl, Nat.add_mul]), cellsOf_append]
    have hext : Ext w (fr.F L) w.drew (fr.F L) := fun b s hx hn => ⟨sees_drew hx, hn⟩
    refine repL_of_get (by rw [List.length_append, List.length_append, repL_length hrold, repL_length hnews]) (fun j c hc => ?_)
    rw [List.getElem?_append] at hc ⊢
    rw [← repL_length hrold]
    split at hc
    ·rename_i hlt; rw [if_pos hlt]
     obtain ⟨y, g1, g2⟩ := repL_get hrold _ _ hc
     exact ⟨y, g1, g2.mono hext (LExt.refl L)⟩
    ·rename_i hlt; rw [if_neg hlt]
     obtain ⟨y, g1, g2⟩ := repL_get hnews _ _ hc
     exact ⟨y, g1, g2.mono hext (LExt.refl L)⟩)
   (by
    simp only [List.length_append, Array.length_toList, size_zeroCells', hzc, List.size_toArray, hzlen, hol, hnl, ← Nat.add_mul]
    congr 1; omega)
   (by simpa using hge) e
  unfold Oper.wp
  rw [key _ _ _ hv hr, Oper.upon_value]
  have hemp : (isnil && xs.isEmpty) = false := by cases xs <;> simp at hne ⊢
  refine ⟨_, L', rfl, ?_, ?_⟩
  ·rw [hemp]
   have : (old ++ news ++ (Builtin.zeroCells z.cells (grownCap w (es.length + xs.length) cap e - (es.length + xs.length))).toList).toArray = old.toArray ++ news.toArray ++ Builtin.zeroCells z.cells (grownCap w (es.length + xs.length) cap e - (es.length + xs.length)) := by
    apply Array.ext'; simp
   rw [this] at h1
   exact h1
  ·have := oslFull (w := w.drew.alloc (.cells (old.toArray ++ news.toArray ++ Builtin.zeroCells z.cells (grownCap w (es.length + xs.length) cap e - (es.length + xs.length))) e)) (F := fr.F L') h2 (by simpa using hge)
   simpa using this
 cases hdst with
 | nil hk =>
  have hv := hp.inv_v
  have hk' := (hn k (by simp)).trans hk
  by_cases hx0 : xs = []
  ·subst hx0
   have hnil : news = [] := List.eq_nil_of_length_eq_zero (by simpa using hnl)
   subst hnil
   have hr := run_append_room' (P := P) (ty := ty) (n := 0) (cap := 0) (base := none) (w' := w) hu hu2 hsrcD (fun w => size_of hT hle w) hlen hf1 (by simp) rfl
   unfold Oper.wp
   rw [key _ _ _ hv hr, Oper.upon_value]
   have hst := R.step hR k (.arr ei.size true []) (.arr none 0 0 ei.size) hR.mem.frame (Nat.le_refl _) (fun b hb _ => rfl) (fun l0 h => (hR.noL hk' l0 h).elim) (fun b hb => by simp [Loc.blk] at hb) (fun b hb => by simp [Loc.blk] at hb) (fun _ _ => ⟨rfl, rfl, Nat.le_refl _, rfl, by simp, rfl⟩)
   exact ⟨_, _, rfl, hst.1, .osl (l := .arr none 0 0 ei.size) (by simp [LMap.set]) ⟨Nat.le_refl _, fun _ => ⟨by simp, rfl⟩⟩ ⟨_, _, _, rfl⟩⟩
  ·have hpos : 0 < xs.length := List.length_pos_iff.2 hx0
   exact move none 0 [] hv (by simp; omega) (by simp [Builtin.firstCells]) (.nil _) (by simp) (fun l0 h => (hR.noL hk' l0 h).elim) hx0
 | own ho hs =>
  rename_i n
  have hs' : n = es.length := hs
  subst hs'
  obtain ⟨base, cap, hl', hcap, hnil, hes, hcells⟩ := hR.arr ((hn o (by simp)).trans ho)
  obtain ⟨s1, s2⟩ := hp.osl_at hl' rfl
  have hlold : xs ≠ [] → ∀ l0, L o = some l0 → ∃ base n c, l0 = .arr base n c ei.size ∧ n < (es ++ xs).length := fun hne l0 h => by
   rw [hl'] at h; cases h
   have : 0 < xs.length := List.length_pos_iff.2 hne
   exact ⟨_, _, _, rfl, by simp; omega⟩
  cases base with
  | none =>
   simp only at hcells
   have h0 : es = [] := List.eq_nil_of_length_eq_zero (by omega)
   subst h0
   simp at s2
   by_cases hx0 : xs = []
   ·subst hx0
    have hnil' : news = [] := List.eq_nil_of_length_eq_zero (by simpa using hnl)
    subst hnil'
    have hr := run_append_room' (P := P) (ty := ty) (n := 0) (cap := 0) (base := none) (w' := w) hu hu2 hsrcD (fun w => size_of hT hle w) hlen hf1 (by simp) rfl
    unfold Oper.wp
    rw [key _ _ _ s2 hr, Oper.upon_value]
    refine ⟨_, L, rfl, hR.eqv ⟨fun _ => rfl, fun m => ?_⟩, .osl hl' ⟨Nat.le_refl _, fun _ => ⟨by simp, rfl⟩⟩ ⟨_, _, _, rfl⟩⟩
    simp only [St.obj_upd, look_one]
    split
    ·rename_i e; subst e; rw [(hn o (by simp)).trans ho]; simp
    ·simp
   ·exact move none cap [] (by rw [s2, hcells]; rfl) (by rw [hcells]; simp; exact hx0) (by simp [Builtin.firstCells]) (.nil _) (by simp) (hlold hx0) hx0
  | some bo =>
   obtain ⟨b, off0⟩ := bo
   obtain ⟨off, c, hv, hlc, hpos, hq0, hcc⟩ := s2
   obtain rfl := hq0 rfl
   rw [Nat.sub_zero] at hcc
   subst hcc
   have hib' : isnil = false := by simpa using hnil
   by_cases hroom : es.length + xs.length ≤ c
   ·have hfit : es.length * ei.size + news.length ≤ c * ei.size := by rw [hnl, ← Nat.add_mul]; exact Nat.mul_le_mul_right _ hroom
    have hc : ∀ j, j < news.length → ∃ x, w.cell? ⟨b, off + es.length * ei.size + j, none⟩ = some x ∧ w.frozen? ⟨b, off + es.length * ei.size + j, none⟩ = false := fun j hj => by
     have := hcells.2 (es.length * ei.size + j) (by omega)
     simpa [Nat.add_assoc] using this
    have hst := run_storeCells_cells (P := P) b (off + es.length * ei.size) news 0 w (fun j hj => by obtain ⟨x, hx, _⟩ := hc j hj; simp [hx]) (fun j hj => by obtain ⟨x, _, hx⟩ := hc j hj; simpa using hx) hone
    simp only [Nat.add_zero] at hst
    have hr := run_append_room' (P := P) (ty := ty) (n := es.length) (cap := c) (base := some ⟨b, off, none⟩) (w' := w.setCells b (off + es.length * ei.size) news) hu hu2 hsrcD (fun w => size_of hT hle w) hlen hf1 hroom (by simp only [Addr.add_lit]; exact hst)
    have hclen := cellsOf_length hes
    have hW := R.write hR (o := o) (b := b) (lo := off) (n := c * ei.size) (q := off + es.length * ei.size) (l := .arr (some (b, off)) es.length c ei.size) (l' := .arr (some (b, off)) (es ++ xs).length c ei.size)
     (ob' := .arr ei.size (isnil && xs.isEmpty) (es ++ xs)) (vs := news) hl' rfl rfl ⟨by omega, by omega⟩ ?_ rfl rfl id (by intro b h; cases h) (fun hext hlx => by
      have hcsA := fun j => cells_setCells (w := w) (b := b) (q := off + es.length * ei.size) (vs := news) (fun j hj => by obtain ⟨x, hx, _⟩ := hc j hj; simp [hx]) (off + j)
      refine ⟨rfl, rfl, by simpa using hroom, by simp [hib'], fun x hx => ?_, fun j c' hj => ?_, fun j hj => ?_⟩
      ·exact (List.mem_append.1 hx).elim (hes x) (hxs x)
      ·rw [hcsA j, World.frozen?_setCells]
       rw [cellsOf_append, List.getElem?_append] at hj
       split at hj
       ·rename_i hlt
        rw [if_neg (by omega)]
        obtain ⟨x, k1, k2, k3⟩ := hcells.1 j c' hj
        exact ⟨x, k1, k2, k3.mono hext hlx⟩
       ·rename_i hlt
        obtain ⟨x, k1, k2⟩ := repL_get hnews _ _ hj
        have hjn := (List.getElem?_eq_some_iff.1 k1).1
        obtain ⟨_, _, k4⟩ := hcells.2 j (by omega)
        exact ⟨x, by rw [if_pos ⟨by omega, by omega⟩, show off + j - (off + es.length * ei.size) = j - (cellsOf es).length by omega]; exact k1, k4, k2.mono hext hlx⟩
      ·rw [hcsA j, World.frozen?_setCells]
       obtain ⟨x, k1, k2⟩ := hcells.2 j hj
       split
       ·exact ⟨news[off + j - (off + es.length * ei.size)]'(by omega), List.getElem?_eq_getElem _, k2⟩
       ·exact ⟨x, k1, k2⟩)
    ·unfold Oper.wp
     rw [key _ _ _ hv hr, Oper.upon_value]
     refine ⟨_, _, rfl, hW.1, ?_⟩
     have := oslFull (w := w.setCells b (off + es.length * ei.size) news) (F := fr.F (L.set o (.arr (some (b, off)) (es ++ xs).length c ei.size))) (k := o) (L := L.set o (.arr (some (b, off)) (es ++ xs).length c ei.size)) (b := b) (off := off) (n := (es ++ xs).length) (cap := c) (sz := ei.size) (by simp [LMap.set]) (by simpa using hroom)
     simpa using this
    ·refine ⟨fun off x _ => trivial, fun off' len k x hk => ?_, fun i off' k x hk => ?_⟩
     ·by_cases hx0 : xs = []
      ·subst hx0; simpa using hk
      ·have : 0 < xs.length := List.length_pos_iff.2 hx0
       exact ⟨by have := hk.1; simp; omega, fun h => by have := hk.1; simp at h; omega⟩
     ·by_cases hx0 : xs = []
      ·subst hx0; simpa using hk
      ·have : 0 < xs.length := List.length_pos_iff.2 hx0
       exact ⟨by have := hk.1; simp; omega, fun h => by have := hk.1; simp at h; omega⟩
   ·have hx0 : xs ≠ [] := by rintro rfl; simp at hroom; omega
    obtain ⟨vs, g1, g2, g3⟩ := cells_list (w := w) (F := fr.F L) (L := L) (b := b) (ds := cellsOf es) (o := off) (fun j c hc => by
     obtain ⟨y, m1, _, m2⟩ := hcells.1 j c hc
     exact ⟨y, m1, m2⟩)
    exact move (some ⟨b, off, none⟩) c vs hv hroom (run_firstCells_list (w := w.drew) (by rw [g1, cellsOf_length hes]) g3 _) g2 hes (hlold hx0) hx0
end
end Go.Sym
