/- The logic 'Sym': make of a slice; bytes turned into a string. -/
import Derived.Test.YtbdpnkcpglpfbaaSymW
import Derived.Laws.BytesArg
import Derived.Laws.MakeOwn
namespace Go.Sym
open Go.RowKit

section
variable {P : Program} {T : Tbl} {fr : Fr} {S S' : St} {L : LMap} {a : Act} {w : World} {γ : Bool}
variable {dst : Option Tmp} {ty : Nat} {pos : String} {aft : Array Edge} {g : Option (Nat × Bool)}

/-- What an element of a new array is. -/
inductive ElemZ : List Value → PV → Prop
  | one {z : Value} : ElemZ [z] (.v z)
  | agg {zs : List Value} : ElemZ zs (.agg (zs.map .v))
theorem ElemZ.cells {zs : List Value} {p : PV} (h : ElemZ zs p) : p.cells = zs.map .v := by cases h <;> rfl

theorem madeCells_flat (zs : List Value) : ∀ n : Nat, zs ≠ [] → (madeCells zs.toArray (n * zs.length)).toList = (List.replicate n zs).flatMap id := by
  intro n h0
  have hz : 0 < zs.length := List.length_pos_iff.2 h0
  refine List.ext_getElem ?_ ?_
  · simp [madeCells, List.flatMap, List.length_flatten]
  · intro i h1 h2
    have e : (madeCells zs.toArray (n * zs.length)).toList[i] = zs[i % zs.length]! := by simp [madeCells]
    rw [e]
    clear h1 e
    induction n generalizing i with
    | zero => simp at h2
    | succ n ih =>
      simp only [List.replicate_succ, List.flatMap_cons, id] at h2 ⊢
      by_cases h : i < zs.length
      · rw [List.getElem_append_left h, Nat.mod_eq_of_lt h, getElem!_pos zs i h]
      · rw [List.getElem_append_right (by omega)]
        rw [← ih (i - zs.length) (by rw [List.length_append] at h2; omega)]
        rw [Nat.mod_eq_sub_mod (by omega)]

theorem F_makeSlice (hT : TOk P T) (hγ : γ = true) {k t e : Nat} {x y : Operand} {kl kc : IntKind} {n c : Int} {ti ei : TI} {zs : List Value} {p : PV} {sz by_ : Nat} (hx : OpdO γ S x (.v (.int kl n))) (hy : OpdO γ S y (.v (.int kc c)))
    (hl : look T t = some ti) (hd : ti.d = .slice e) (hle : look T e = some ei) (hz : ei.zero = some zs) (hsz : ei.size = sz) (hby : ei.bytes = by_) (hzs : Nat.beq zs.length sz = true) (hz0 : Nat.beq sz 0 = false) (hp : ElemZ zs p)
    (hb : Side (0 ≤ n ∧ n ≤ c ∧ (by_ : Int) * c ≤ 281474976710656 ∧ c ≤ 9223372036854775807)) (hk : S.obj k = none) :
    FStep P ⟨some k, .makeSlice t x y, ty, pos, aft, g⟩ S [k] ⟨.osl k 0 n.toNat n.toNat, [(k, .arr sz false (List.replicate n.toNat p))]⟩ := by
  intro fr S' ht hn L a w hR Q
  obtain ⟨h0, hnc, hbytes, h63⟩ := hb
  have h1 := (hx.rep hγ hR (fun t e => ht t (mem_tmps (x := x) (by simp [Op.operands]) t e))).inv_v
  have h2 := (hy.rep hγ hR (fun t e => ht t (mem_tmps (x := y) (by simp [Op.operands]) t e))).inv_v
  subst hsz
  have hzl : zs.length = ei.size := Nat.eq_of_beq_eq_true hzs
  have hne : zs ≠ [] := fun h => by rw [h] at hzl; rw [← hzl] at hz0; simp at hz0
  obtain ⟨z, hzr, hzc, info, hi, hiz, his, hib⟩ := zero_of hT hle hz w
  have hr := run_make (P := P) w t e info z (und_slice hT hl hd) hi hiz kl kc n c h0 hnc (by rw [hib, hby]; exact hbytes) h63
  rw [hzc, his, ← hzl] at hr
  have hflat := madeCells_flat zs c.toNat hne
  have hcm : (madeCells zs.toArray (c.toNat * zs.length)) = ((List.replicate c.toNat zs).flatMap id).toArray := by rw [← hflat]
  rw [hcm] at hr
  have hpc := hp.cells
  have hes : ∀ q ∈ List.replicate n.toNat p, q.cells.length = ei.size := fun q hq => by
    rw [List.eq_of_mem_replicate hq, hpc, List.length_map, hzl]
  have hcells : cellsOf (List.replicate n.toNat p) = ((List.replicate n.toNat zs).flatMap id).map .v := by
    generalize n.toNat = m
    induction m with
    | zero => rfl
    | succ m ih =>
      simp only [cellsOf, List.replicate_succ, List.flatMap_cons, id, List.map_append, hpc] at ih ⊢
      rw [ih]
  have htake : ((List.replicate c.toNat zs).flatMap id).take (n.toNat * ei.size) = (List.replicate n.toNat zs).flatMap id := by
    have : List.replicate c.toNat zs = List.replicate n.toNat zs ++ List.replicate (c.toNat - n.toNat) zs := by
      rw [List.replicate_append_replicate]; congr 1; omega
    rw [this, List.flatMap_append]
    refine List.take_left' ?_
    rw [← hzl]
    generalize n.toNat = m
    induction m with
    | zero => simp
    | succ m ih => simp only [List.replicate_succ, List.flatMap_cons, id, List.length_append, ih]; rw [Nat.succ_mul]; omega
  have hclen : ((List.replicate c.toNat zs).flatMap id).length = c.toNat * ei.size := by
    rw [← hzl]
    generalize c.toNat = m
    induction m with
    | zero => simp
    | succ m ih => simp only [List.replicate_succ, List.flatMap_cons, id, List.length_append, ih]; rw [Nat.succ_mul]; omega
  obtain ⟨L', k1, k2⟩ := hR.newArr (cap := c.toNat) ((hn k (by simp)).trans hk) (es := List.replicate n.toNat p) (vs := (List.replicate c.toNat zs).flatMap id) hes (by
    rw [List.length_replicate, htake, hcells]; exact repL_map_v _ _ _ _) hclen (by rw [List.length_replicate]; omega) e
  unfold Oper.wp
  have hrun : (execOp a.eval ⟨some k, .makeSlice t x y, ty, pos, aft, g⟩).run P w = .ok (.value (.slice (some ⟨w.heap.size, 0, none⟩) n.toNat c.toNat)) (w.alloc (.cells ((List.replicate c.toNat zs).flatMap id).toArray e)) := by
    simp only [execOp, Sem.run_bind, h1, h2, hr, Result.andThen_ok, Sem.run_pure]
  rw [hrun, Oper.upon_value]
  rw [List.length_replicate] at k2
  exact ⟨_, L', rfl, k1, oslFull k2 (by omega)⟩

@[reducible] def u8V (b : UInt8) : PV := .v (.int .u8 (b.toNat : Int))

theorem repL_u8 {F : Nat → Prop} : ∀ {l : List UInt8} {news : List Value}, RepL w F L (cellsOf (l.map u8V)) news → news = l.map fun b => Value.int .u8 (b.toNat : Int)
  | [], news, h => by cases h; rfl
  | b :: r, news, h => by
    simp only [List.map_cons, cellsOf, List.flatMap_cons, PV.cells, List.cons_append, List.nil_append] at h
    cases h with
    | cons g1 g2 => rw [g1.inv_v, repL_u8 g2]; rfl

theorem F_bytesToString (hT : TOk P T) (hγ : γ = true) {s t e : Nat} {x : Operand} {p : PV} {rn : List Nat} {xs : List PV} {l : List UInt8} {si ti ei : TI} (hx : OpdO γ S x p) (hs : look T s = some si) (hsd : si.d = .slice e) (hle : look T e = some ei) (hed : ei.d = .int .u8)
    (hl : look T t = some ti) (htd : ti.d = .str) (hsrc : SrcR S (.slice e) 1 p rn xs) (hxs : Side (xs = l.map u8V)) : FStep P ⟨dst, .convert s t x, ty, pos, aft, g⟩ S rn ⟨sV l, []⟩ := by
  refine FStep.val fun fr S' L a w ht hn hR => ?_
  have h1 := hx.rep hγ hR (ht x (by simp [Op.operands]))
  obtain ⟨news, hlen, hf1, _, hnews, hcl, _⟩ := hsrc.sound (P := P) hR hn h1
  have hxs' : xs = l.map u8V := hxs
  have hvals : news = l.map fun b => Value.int .u8 (b.toNat : Int) := by
    rw [hxs'] at hnews
    exact repL_u8 hnews
  have hxl : xs.length = l.length := by rw [hxs', List.length_map]
  have hmap : news = (l.map fun b => (b.toNat : Int)).map (Value.int .u8) := by rw [hvals, List.map_map]; rfl
  have hback : (l.map fun b => (b.toNat : Int)).map (fun n => UInt8.ofNat n.toNat) = l := by
    rw [List.map_map]
    conv => rhs; rw [← List.map_id l]
    apply List.map_congr_left
    intro b _
    simp
  have hus := und_slice hT hs hsd
  have hue := und_int hT hle hed
  have hut := und_str hT hl htd
  refine ⟨.string ⟨⟨l⟩⟩, ?_, .v _ _⟩
  simp only [execOp, Sem.run_bind]
  generalize a.eval x = v at *
  have hconv : (convert s t v).run P w = .ok (.string ⟨⟨l⟩⟩) w := by
    cases hsrc with
    | sl =>
      cases h1 with
      | slNil =>
        have : l = [] := by simpa using hxs'.symm
        subst this
        exact run_convert_bytes_nil (P := P) w s e hus hue 0 0 t hut
      | slE =>
        have : l = [] := by simpa using hxs'.symm
        subst this
        rw [run_convert_bytes_string w s t e _ _ _ hus hue hut, run_bytesToString w _ _ _ [] (by simp [loadCells, loadCellsFrom])]
        rfl
      | sl q1 q2 q3 =>
        simp only [Builtin.firstCells, Nat.mul_one] at hf1
        rw [run_convert_bytes_string w s t e _ _ _ hus hue hut, run_bytesToString w _ _ _ (l.map fun b => (b.toNat : Int)) (by rw [q1]; rw [← hmap]; exact hf1), foldl_push_bytes, hback]
        (simp [ByteArray.empty, ByteArray.emptyWithCapacity]; rfl)
    | nil =>
      have := h1.inv_v
      subst this
      have : l = [] := by simpa using hxs'.symm
      subst this
      exact run_convert_bytes_nil (P := P) w s e hus hue 0 0 t hut
    | full ho hs2 =>
      rename_i o n isnil
      cases h1 with
      | osl q1 q2 q3 =>
        obtain ⟨b, m, c, rfl⟩ := q3
        cases b with
        | none =>
          simp only [Builtin.firstCells, Sem.run_pure] at hf1
          have : news = [] := by simpa using hf1.symm
          rw [this] at hmap
          have : l = [] := by simpa using hmap.symm
          subst this
          exact run_convert_bytes_nil (P := P) w s e hus hue _ _ t hut
        | some ad =>
          simp only [Builtin.firstCells, Nat.mul_one] at hf1
          have hm : m = xs.length := by simpa [Builtin.lenOf] using hlen
          rw [run_convert_bytes_string w s t e _ _ _ hus hue hut, run_bytesToString w _ _ _ (l.map fun b => (b.toNat : Int)) (by rw [hm, ← hmap]; exact hf1), foldl_push_bytes, hback]
          (simp [ByteArray.empty, ByteArray.emptyWithCapacity]; rfl)
    | part ho hs2 =>
      cases h1 with
      | osl q1 q2 q3 =>
        obtain ⟨b, m, c, rfl⟩ := q3
        cases b with
        | none =>
          simp only [Builtin.firstCells, Sem.run_pure] at hf1
          have : news = [] := by simpa using hf1.symm
          rw [this] at hmap
          have : l = [] := by simpa using hmap.symm
          subst this
          exact run_convert_bytes_nil (P := P) w s e hus hue _ _ t hut
        | some ad =>
          simp only [Builtin.firstCells, Nat.mul_one] at hf1
          simp only [Builtin.lenOf, Sem.run_pure, Result.ok.injEq, and_true] at hlen
          rw [run_convert_bytes_string w s t e _ _ _ hus hue hut, run_bytesToString w _ _ _ (l.map fun b => (b.toNat : Int)) (by rw [← hmap, hlen]; exact hf1), foldl_push_bytes, hback]
          (simp [ByteArray.empty, ByteArray.emptyWithCapacity]; rfl)
  rw [hconv]; rfl
end
end Go.Sym
