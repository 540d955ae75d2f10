/- The logic 'Sym': writes into a part of an own array: copy, append in place; min and max. -/
import Derived.Test.YtbdpnkcpglpfbaaSymR
namespace Go.Sym
open Go.RowKit

section
variable {P : Program} {T : Tbl} {fr : Fr} {S S' : St} {L : LMap} {a : Act} {w : World} {γ : Bool}
variable {ty : Nat} {pos : String} {aft : Array Edge} {g : Option (Nat × Bool)} {dst : Option Nat}

theorem F_max (hγ : γ = true) {x y : Operand} {ts : Array TypeId} {k : IntKind} {i j : Int} (hx : OpdO γ S x (.v (.int k i))) (hy : OpdO γ S y (.v (.int k j))) :
    FStep P ⟨dst, .call { callee := .builtin .max, args := #[x, y], argTypes := ts }, ty, pos, aft, g⟩ S [] ⟨.v (.int k (max i j)), []⟩ := by
  refine FStep.val fun fr S' L a w ht hn hR => ?_
  have h1 := (hx.rep hγ hR (ht x (by simp [Op.operands, Call.operands]))).inv_v
  have h2 := (hy.rep hγ hR (ht y (by simp [Op.operands, Call.operands]))).inv_v
  have e : (if j > i then j else i) = max i j := by split <;> omega
  refine ⟨_, ?_, .v _ _⟩
  simp only [execOp, resolve, Sem.run_bind, Sem.run_pure, Result.andThen_ok, invoke, builtin]
  simp [h1, h2, Builtin.max_, Builtin.max2, ← e]

theorem F_min (hγ : γ = true) {x y : Operand} {ts : Array TypeId} {k : IntKind} {i j : Int} (hx : OpdO γ S x (.v (.int k i))) (hy : OpdO γ S y (.v (.int k j))) :
    FStep P ⟨dst, .call { callee := .builtin .min, args := #[x, y], argTypes := ts }, ty, pos, aft, g⟩ S [] ⟨.v (.int k (min i j)), []⟩ := by
  refine FStep.val fun fr S' L a w ht hn hR => ?_
  have h1 := (hx.rep hγ hR (ht x (by simp [Op.operands, Call.operands]))).inv_v
  have h2 := (hy.rep hγ hR (ht y (by simp [Op.operands, Call.operands]))).inv_v
  have e : (if j < i then j else i) = min i j := by split <;> omega
  refine ⟨_, ?_, .v _ _⟩
  simp only [execOp, resolve, Sem.run_bind, Sem.run_pure, Result.andThen_ok, invoke, builtin]
  simp [h1, h2, Builtin.min_, Builtin.min2, ← e]

/-- Elements k.. of a list, put anew. -/
def putAt (es : List PV) (k : Nat) (xs : List PV) : List PV := es.take k ++ (xs ++ es.drop (k + xs.length))
theorem putAt_length {es xs : List PV} {k : Nat} (h : k + xs.length ≤ es.length) : (putAt es k xs).length = es.length := by
  simp only [putAt, List.length_append, List.length_take, List.length_drop]; omega
theorem putAt_mem {es xs : List PV} {k : Nat} {e : PV} (h : e ∈ putAt es k xs) : e ∈ es ∨ e ∈ xs := by
  simp only [putAt, List.mem_append] at h
  rcases h with h | h | h
  · exact .inl (List.mem_of_mem_take h)
  · exact .inr h
  · exact .inl (List.mem_of_mem_drop h)
theorem putAt_nil (es : List PV) (k : Nat) : putAt es k [] = es := by simp [putAt]

theorem R.putRows (hR : R fr S L a w) {o sz cap b off : Nat} {es xs : List PV} {news : List Value} {k : Nat} (hl : L o = some (.arr (some (b, off)) es.length cap sz)) (hcap : es.length ≤ cap) (hes : ∀ e ∈ es, e.cells.length = sz)
    (hcells : CellsAt w (fr.F L) L (cellsOf es) b off ∧ ∀ j, j < cap * sz → ∃ x, w.cell? ⟨b, off + j, none⟩ = some x ∧ w.frozen? ⟨b, off + j, none⟩ = false) (hk : k + xs.length ≤ es.length) (hxs : ∀ e ∈ xs, e.cells.length = sz) (hnews : RepL w (fr.F L) L (cellsOf xs) news) :
    R fr (S.upd [(o, .arr sz false (putAt es k xs))]) (L.set o (.arr (some (b, off)) es.length cap sz)) a (w.setCells b (off + k * sz) news) := by
  have hnl : news.length = xs.length * sz := by rw [← cellsOf_length hxs, repL_length hnews]
  have hfit : k * sz + news.length ≤ es.length * sz := by rw [hnl, ← Nat.add_mul]; exact Nat.mul_le_mul_right _ hk
  have hfit2 : es.length * sz ≤ cap * sz := Nat.mul_le_mul_right _ hcap
  have hc : ∀ j, j < news.length → ∃ x, w.cell? ⟨b, off + k * sz + j, none⟩ = some x ∧ w.frozen? ⟨b, off + k * sz + j, none⟩ = false := fun j hj => by
    have := hcells.2 (k * sz + j) (by omega)
    simpa [Nat.add_assoc] using this
  refine (R.write hR (o := o) (b := b) (lo := off) (n := cap * sz) (q := off + k * sz) (l := .arr (some (b, off)) es.length cap sz) (l' := .arr (some (b, off)) es.length cap sz)
    (ob' := .arr sz false (putAt es k xs)) (vs := news) hl rfl rfl ⟨by omega, by omega⟩ (Loc.le_refl _) rfl rfl (fun hext hlx => ?_)).1
  have hcsA := fun j => cells_setCells (w := w) (b := b) (q := off + k * sz) (vs := news) (fun j hj => by obtain ⟨x, hx, _⟩ := hc j hj; simp [hx]) (off + j)
  refine ⟨rfl, (putAt_length hk).symm, hcap, rfl, fun x hx => (putAt_mem hx).elim (hes x) (hxs x), fun j c' hj => ?_, fun j hj => ?_⟩
  · rw [hcsA j, World.frozen?_setCells]
    have hlt : (cellsOf (es.take k)).length = k * sz := by rw [cellsOf_length (fun e he => hes e (List.mem_of_mem_take he))]; rw [List.length_take, Nat.min_eq_left (by omega)]
    have hlx2 : (cellsOf xs).length = news.length := by rw [cellsOf_length hxs, hnl]
    simp only [putAt, cellsOf_append] at hj
    rw [List.getElem?_append, hlt] at hj
    split at hj
    · rename_i h1
      rw [if_neg (by omega)]
      rw [cellsOf_take hes, List.getElem?_take, if_pos h1] at hj
      obtain ⟨x, k1, k2, k3⟩ := hcells.1 j c' hj
      exact ⟨x, k1, k2, k3.mono hext hlx⟩
    · rename_i h1
      rw [List.getElem?_append, hlx2] at hj
      split at hj
      · rename_i h2
        obtain ⟨x, k1, k2⟩ := repL_get hnews _ _ hj
        obtain ⟨_, _, k4⟩ := hcells.2 j (by omega)
        exact ⟨x, by rw [if_pos ⟨by omega, by omega⟩, show off + j - (off + k * sz) = j - k * sz by omega]; exact k1, k4, k2.mono hext hlx⟩
      · rename_i h2
        rw [if_neg (by omega)]
        rw [cellsOf_drop hes, List.getElem?_drop, Nat.add_mul, ← hnl, show k * sz + news.length + (j - k * sz - news.length) = j by omega] at hj
        obtain ⟨x, k1, k2, k3⟩ := hcells.1 j c' hj
        exact ⟨x, k1, k2, k3.mono hext hlx⟩
  · rw [hcsA j, World.frozen?_setCells]
    obtain ⟨x, k1, k2⟩ := hcells.2 j hj
    split
    · exact ⟨news[off + j - (off + k * sz)]'(by omega), List.getElem?_eq_getElem _, k2⟩
    · exact ⟨x, k1, k2⟩

theorem LMap.set_same {L : LMap} {o : Nat} {l : Loc} (h : L o = some l) : L.set o l = L := by
  funext n
  simp only [LMap.set]
  split
  · rename_i e; subst e; exact h.symm
  · rfl

theorem repL_take {F : Nat → Prop} : ∀ {ps : List PV} {vs : List Value} (k : Nat), RepL w F L ps vs → RepL w F L (ps.take k) (vs.take k)
  | _, _, 0, _ => by simp; exact .nil _
  | [], _, k + 1, h => by cases h; simp; exact .nil _
  | _ :: _, _, k + 1, h => by cases h with | cons h1 h2 => simp only [List.take_succ_cons]; exact .cons h1 (repL_take k h2)

theorem cellsOkL_take {ps : List PV} (k : Nat) (h : cellsOkL ps = true) : cellsOkL (ps.take k) = true := by
  simp only [cellsOkL, List.all_eq_true] at h ⊢
  exact fun p hp => h p (List.mem_of_mem_take hp)

/-- copy into a part of an own array. -/
theorem F_copy (hT : TOk P T) (hγ : γ = true) {t t2 e : Nat} {x y : Operand} {p q : PV} {o off len n sz : Nat} {isnil : Bool} {es xs : List PV} {rn : List Nat} {ti ti2 ei : TI} {td2 : TD} (hx : OpdO γ S x (.osl o off len n)) (hy : OpdO γ S y q)
    (hl : look T t = some ti) (hd : ti.d = .slice e) (hle : look T e = some ei) (hsz : ei.size = sz) (ho : S.obj o = some (.arr sz isnil es)) (hs : Side (n = es.length))
    (hsrc : SrcR S td2 sz q rn xs) (hcs : Side (cellsOkL (cellsOf (xs.take (min xs.length len))) = true)) :
    FStep P ⟨dst, .call { callee := .builtin .copy, args := #[x, y], argTypes := #[t, t2] }, ty, pos, aft, g⟩ S (o :: rn) ⟨iV (min xs.length len : Nat), [(o, .arr sz isnil (putAt es off (xs.take (min xs.length len))))]⟩ := by
  intro fr S' ht hn L a w hR Q
  have hp := hx.rep hγ hR (fun t e => ht t (mem_tmps (x := x) (by simp [Op.operands, Call.operands]) t e))
  have hq := hy.rep hγ hR (fun t e => ht t (mem_tmps (x := y) (by simp [Op.operands, Call.operands]) t e))
  have ho' := (hn o (by simp)).trans ho
  obtain ⟨base, cap, hl', hcap, hnil, hes, hcells⟩ := hR.arr ho'
  obtain ⟨s1, s2⟩ := hp.osl_at hl' hs
  have hs' : n = es.length := hs
  obtain ⟨news, hlen, hf1, hf2, hnews, hxs, hfk⟩ := hsrc.sound (P := P) hR (fun n h => hn n (by simp [h])) hq
  generalize hev : a.eval y = yv at hlen hfk
  have hrun : ∀ base c w', a.eval x = .slice base len c → (match base with | none => w' = w | some ad => (storeCells ad (news.take (min xs.length len * sz))).run P w = .ok () w') →
      (execOp a.eval ⟨dst, .call { callee := .builtin .copy, args := #[x, y], argTypes := #[t, t2] }, ty, pos, aft, g⟩).run P w = .ok (.value (goInt (min xs.length len : Nat))) w' := by
    intro base c w' hv hst
    have hb := hfk (min xs.length len) (Nat.min_le_left _ _)
    have hmin : Nat.min xs.length len = min xs.length len := rfl
    cases base with
    | none =>
      subst hst
      simp only [execOp, resolve, Sem.run_bind, Sem.run_pure, Result.andThen_ok, invoke, builtin]
      simp [hv, hev, Builtin.copy_, run_underlying (und_slice hT hl hd), hlen, size_of hT hle, hsz, hmin, hb]
    | some ad =>
      simp only [execOp, resolve, Sem.run_bind, Sem.run_pure, Result.andThen_ok, invoke, builtin]
      simp [hv, hev, Builtin.copy_, run_underlying (und_slice hT hl hd), hlen, size_of hT hle, hsz, hmin, hb, hst]
  have hm1 : min xs.length len ≤ xs.length := Nat.min_le_left _ _
  have hm2 : min xs.length len ≤ len := Nat.min_le_right _ _
  have hcs' : cellsOkL (cellsOf (xs.take (min xs.length len))) = true := hcs
  generalize hm : min xs.length len = m at hm1 hm2 hrun hcs' ⊢
  unfold Oper.wp
  cases base with
  | none =>
    simp only at hcells
    have hm0 : m = 0 := by omega
    subst hm0
    rw [hrun none 0 w (by rw [s2]; congr 1; omega) rfl, Oper.upon_value]
    refine ⟨_, L, rfl, hR.eqv ⟨fun _ => rfl, fun i => ?_⟩, .v _ _⟩
    simp only [St.obj_upd, look_one, List.take_zero, putAt_nil]
    split
    · rename_i e; subst e; rw [ho']; simp
    · simp
  | some bo =>
    obtain ⟨b, off0⟩ := bo
    obtain ⟨ad, c, hv, hlc, hpos, _⟩ := s2
    have hib : isnil = false := by simpa using hnil
    subst hib
    by_cases hm0 : m = 0
    · subst hm0
      rw [hrun _ c w hv (by simp [storeCells]), Oper.upon_value]
      refine ⟨_, L, rfl, hR.eqv ⟨fun _ => rfl, fun i => ?_⟩, .v _ _⟩
      simp only [St.obj_upd, look_one, List.take_zero, putAt_nil]
      split
      · rename_i e; subst e; rw [ho']; simp
      · simp
    · have had := hpos (by omega)
      subst had
      have hxs2 : ∀ e ∈ xs.take m, e.cells.length = sz := fun e he => hxs e (List.mem_of_mem_take he)
      have hn2 : RepL w (fr.F L) L (cellsOf (xs.take m)) (news.take (m * sz)) := by rw [cellsOf_take hxs]; exact repL_take _ hnews
      have hone := repL_one hn2 hcs'
      have hml : (xs.take m).length = m := by rw [List.length_take, Nat.min_eq_left hm1]
      have hnl : (news.take (m * sz)).length = m * sz := by rw [← repL_length hn2, cellsOf_length hxs2, hml]
      have hin : off + m ≤ es.length := by omega
      have hfit : off * sz + m * sz ≤ cap * sz := by rw [← Nat.add_mul]; exact Nat.mul_le_mul_right _ (by omega)
      have hc : ∀ j, j < (news.take (m * sz)).length → ∃ x, w.cell? ⟨b, off0 + off * sz + j, none⟩ = some x ∧ w.frozen? ⟨b, off0 + off * sz + j, none⟩ = false := fun j hj => by
        have := hcells.2 (off * sz + j) (by omega)
        simpa [Nat.add_assoc] using this
      have hst := run_storeCells_cells (P := P) b (off0 + off * sz) (news.take (m * sz)) 0 w (fun j hj => by obtain ⟨x, hx, _⟩ := hc j hj; simp [hx]) (fun j hj => by obtain ⟨x, _, hx⟩ := hc j hj; simpa using hx) hone
      rw [Nat.add_zero] at hst
      rw [hrun _ c _ hv hst, Oper.upon_value]
      have hW := R.putRows hR (xs := xs.take m) (news := news.take (m * sz)) (k := off) hl' hcap hes hcells (by rw [hml]; exact hin) hxs2 hn2
      exact ⟨_, _, rfl, hW, .v _ _⟩

/-- append into an own array that has elements behind the slice: they are overwritten. -/
theorem F_appendIn (hT : TOk P T) (hγ : γ = true) {t t2 e : Nat} {x y : Operand} {q : PV} {o len n sz : Nat} {isnil : Bool} {es xs : List PV} {rn : List Nat} {ti ti2 ei : TI} {td2 : TD} (hx : OpdO γ S x (.osl o 0 len n)) (hy : OpdO γ S y q)
    (hl : look T t = some ti) (hd : ti.d = .slice e) (hle : look T e = some ei) (hsz : ei.size = sz) (hl2 : look T t2 = some ti2) (hd2 : ti2.d = td2) (ho : S.obj o = some (.arr sz isnil es)) (hs : Side (n = es.length))
    (hsrc : SrcR S td2 sz q rn xs) (hcs : Side (cellsOkL (cellsOf xs) = true)) (hin : Side (len + xs.length ≤ es.length)) :
    FStep P ⟨dst, .call { callee := .builtin .append, args := #[x, y], argTypes := #[t, t2] }, ty, pos, aft, g⟩ S (o :: rn) ⟨.osl o 0 (len + xs.length) n, [(o, .arr sz isnil (putAt es len xs))]⟩ := by
  intro fr S' ht hn L a w hR Q
  have hp := hx.rep hγ hR (fun t e => ht t (mem_tmps (x := x) (by simp [Op.operands, Call.operands]) t e))
  have hq := hy.rep hγ hR (fun t e => ht t (mem_tmps (x := y) (by simp [Op.operands, Call.operands]) t e))
  have ho' := (hn o (by simp)).trans ho
  obtain ⟨base, cap, hl', hcap, hnil, hes, hcells⟩ := hR.arr ho'
  obtain ⟨s1, s2⟩ := hp.osl_at hl' hs
  have hs' : n = es.length := hs
  have hin' : len + xs.length ≤ es.length := hin
  obtain ⟨d2, hu2, hsrcD⟩ : ∃ d2, P.underlying t2 = some d2 ∧ srcD d2 := by
    cases hsrc with
    | sl => exact ⟨_, und_slice hT hl2 hd2, .inr ⟨_, rfl⟩⟩
    | full _ _ => exact ⟨_, und_slice hT hl2 hd2, .inr ⟨_, rfl⟩⟩
    | part _ _ => exact ⟨_, und_slice hT hl2 hd2, .inr ⟨_, rfl⟩⟩
    | nil => exact ⟨_, und_slice hT hl2 hd2, .inr ⟨_, rfl⟩⟩
    | str => exact ⟨_, und_str hT hl2 hd2, .inl rfl⟩
  subst hsz
  obtain ⟨news, hlen, hf1, hf2, hnews, hxs, hfk⟩ := hsrc.sound (P := P) hR (fun n h => hn n (by simp [h])) hq
  have hone := repL_one hnews hcs
  have hnl : news.length = xs.length * ei.size := by rw [← repL_length hnews, cellsOf_length hxs]
  have hu := und_slice hT hl hd
  have key : ∀ v r w', a.eval x = v → (Builtin.append_ #[t, t2] ty #[v, a.eval y]).run P w = .ok r w' →
      (execOp a.eval ⟨dst, .call { callee := .builtin .append, args := #[x, y], argTypes := #[t, t2] }, ty, pos, aft, g⟩).run P w = .ok (.value r) w' := by
    intro v r w' hv hr
    simp only [execOp, resolve, Sem.run_bind, Sem.run_pure, Result.andThen_ok, invoke, builtin]
    simp [hv, hr]
  unfold Oper.wp
  cases base with
  | none =>
    simp only at hcells
    have hx0 : xs.length = 0 := by omega
    have hx0' : xs = [] := List.eq_nil_of_length_eq_zero hx0
    subst hx0'
    have hn0 : news = [] := List.eq_nil_of_length_eq_zero (by simpa using hnl)
    subst hn0
    have hl0 : len = 0 := by omega
    subst hl0
    have hr := run_append_room' (P := P) (ty := ty) (n := 0) (cap := 0) (base := none) (w' := w) hu hu2 hsrcD (fun w => size_of hT hle w) hlen hf1 (by simp) rfl
    rw [key _ _ _ s2 hr, Oper.upon_value]
    refine ⟨_, L, rfl, hR.eqv ⟨fun _ => rfl, fun i => ?_⟩, .osl hl' ⟨by omega, fun _ => ⟨by simp, rfl⟩⟩ ⟨_, _, _, rfl⟩⟩
    simp only [St.obj_upd, look_one, putAt_nil]
    split
    · rename_i e; subst e; rw [ho']; simp
    · simp
  | some bo =>
    obtain ⟨b, off⟩ := bo
    obtain ⟨ad, c, hv, hlc, hpos, hq0, hcc⟩ := s2
    obtain rfl := hq0 rfl
    rw [Nat.sub_zero] at hcc
    subst hcc
    have hib : isnil = false := by simpa using hnil
    subst hib
    have hfit : len * ei.size + news.length ≤ c * ei.size := by rw [hnl, ← Nat.add_mul]; exact Nat.mul_le_mul_right _ (by omega)
    have hc : ∀ j, j < news.length → ∃ x, w.cell? ⟨b, ad + len * ei.size + j, none⟩ = some x ∧ w.frozen? ⟨b, ad + len * ei.size + j, none⟩ = false := fun j hj => by
      have := hcells.2 (len * ei.size + j) (by omega)
      simpa [Nat.add_assoc] using this
    have hst := run_storeCells_cells (P := P) b (ad + len * ei.size) news 0 w (fun j hj => by obtain ⟨x, hx, _⟩ := hc j hj; simp [hx]) (fun j hj => by obtain ⟨x, _, hx⟩ := hc j hj; simpa using hx) hone
    simp only [Nat.add_zero] at hst
    have hr := run_append_room' (P := P) (ty := ty) (n := len) (cap := c) (base := some ⟨b, ad, none⟩) (w' := w.setCells b (ad + len * ei.size) news) hu hu2 hsrcD (fun w => size_of hT hle w) hlen hf1 (by omega) (by simp only [Addr.add_lit]; exact hst)
    rw [key _ _ _ hv hr, Oper.upon_value]
    have hW := R.putRows hR (xs := xs) (news := news) (k := len) hl' hcap hes hcells (by omega) hxs hnews
    refine ⟨_, _, rfl, hW, .osl (l := .arr (some (b, ad)) es.length c ei.size) (by simp [LMap.set]) ⟨by omega, fun _ => ⟨by omega, _, _, rfl, by omega, fun _ => by simp, fun _ => rfl, by omega⟩⟩ ⟨_, _, _, rfl⟩⟩

theorem run_clear {t e n sz : Nat} {base : Option Addr} {cap : Nat} {ei : TypeInfo} {z : Value} (ht : P.underlying t = some (.slice e)) (hi : P.info? e = some ei) (hz : ei.zero = some z) {w' : World}
    (hst : match base with | none => w' = w | some a => (storeCells a (Builtin.zeroCells z.cells n).toList).run P w = .ok () w') (hsz : z.cells.size = sz) :
    (Builtin.clear_ #[t] ty #[.slice base n cap]).run P w = .ok (.tuple #[]) w' := by
  subst hsz
  cases base with
  | none => subst hst; simp [Builtin.clear_, run_underlying ht]
  | some ad =>
    cases n with
    | zero =>
      have : w' = w := by simpa [Builtin.zeroCells, storeCells] using hst.symm
      subst this
      simp [Builtin.clear_, run_underlying ht]
    | succ n => simp only at hst; simp [Builtin.clear_, run_underlying ht, zeroValue, typeInfo, hi, hz, hst]

def deadE (sz : Nat) : PV := .agg (List.replicate sz .dead)
theorem repL_dead {F : Nat → Prop} : ∀ (vs : List Value) (ps : List PV), ps.length = vs.length → (∀ p ∈ ps, p = .dead) → RepL w F L ps vs
  | [], [], _, _ => .nil _
  | [], _ :: _, h, _ => by simp at h
  | _ :: _, [], h, _ => by simp at h
  | v :: vs, p :: ps, h, hp => by
    have := hp p (by simp)
    subst this
    exact .cons (.dead _ _) (repL_dead vs ps (by simpa using h) (fun q hq => hp q (by simp [hq])))

theorem zeroCells_mem {z : Array Value} {n : Nat} {v : Value} (h : v ∈ (Builtin.zeroCells z n).toList) : v ∈ z.toList := by
  simp only [Builtin.zeroCells, Array.toList_map, List.mem_map, Array.mem_toList_iff, Array.mem_range] at h
  obtain ⟨i, hi, rfl⟩ := h
  have hz : 0 < z.size := by
    rcases Nat.eq_zero_or_pos z.size with h0 | h0
    · rw [h0, Nat.mul_zero] at hi; omega
    · exact h0
  have := Nat.mod_lt i hz
  rw [getElem!_pos z (i % z.size) this]
  simp

/-- clear of a part of an own array: what lies there is not known any more. -/
theorem F_clear (hT : TOk P T) (hγ : γ = true) {t e : Nat} {x : Operand} {o off len n sz : Nat} {isnil : Bool} {es : List PV} {ti ei : TI} {zs : List Value} (hx : OpdO γ S x (.osl o off len n))
    (hl : look T t = some ti) (hd : ti.d = .slice e) (hle : look T e = some ei) (hsz : ei.size = sz) (hz : ei.zero = some zs) (hzs : Nat.beq zs.length sz = true) (hz1 : (zs.all fun v => v.oneCell') = true) (ho : S.obj o = some (.arr sz isnil es)) (hs : Side (n = es.length)) :
    FStep P ⟨dst, .call { callee := .builtin .clear, args := #[x], argTypes := #[t] }, ty, pos, aft, g⟩ S [o] ⟨.tup [], [(o, .arr sz isnil (putAt es off (List.replicate len (deadE sz))))]⟩ := by
  intro fr S' ht hn L a w hR Q
  have hp := hx.rep hγ hR (fun t e => ht t (mem_tmps (x := x) (by simp [Op.operands, Call.operands]) t e))
  have ho' := (hn o (by simp)).trans ho
  obtain ⟨base, cap, hl', hcap, hnil, hes, hcells⟩ := hR.arr ho'
  obtain ⟨s1, s2⟩ := hp.osl_at hl' hs
  have hs' : n = es.length := hs
  have hzs' := Nat.eq_of_beq_eq_true hzs
  obtain ⟨z, hzr, hzc, info, hi, hiz, his, hib⟩ := zero_of hT hle hz w
  have hu := und_slice hT hl hd
  have hzsz : z.cells.size = sz := by rw [← Array.length_toList, hzc, hzs']
  have key : ∀ v w', a.eval x = v → (Builtin.clear_ #[t] ty #[v]).run P w = .ok (.tuple #[]) w' →
      (execOp a.eval ⟨dst, .call { callee := .builtin .clear, args := #[x], argTypes := #[t] }, ty, pos, aft, g⟩).run P w = .ok (.value (.tuple #[])) w' := by
    intro v w' hv hr
    simp only [execOp, resolve, Sem.run_bind, Sem.run_pure, Result.andThen_ok, invoke, builtin]
    simp [hv, hr]
  have hxs : ∀ e ∈ List.replicate len (deadE sz), e.cells.length = sz := fun e he => by
    rw [List.eq_of_mem_replicate he]; simp [deadE, PV.cells]
  generalize hnews : (Builtin.zeroCells z.cells len).toList = news
  have hnl : news.length = len * sz := by rw [← hnews]; simp [Builtin.zeroCells, hzsz]
  have hone : ∀ v ∈ news, v.oneCell' = true := fun v hv => by
    rw [← hnews] at hv
    have := zeroCells_mem hv
    rw [hzc] at this
    exact List.all_eq_true.1 hz1 v this
  have hnr : RepL w (fr.F L) L (cellsOf (List.replicate len (deadE sz))) news := repL_dead _ _ (by rw [cellsOf_length hxs, hnl]; simp) (fun p hp => by
    simp only [cellsOf, List.mem_flatMap] at hp
    obtain ⟨e, he, hpe⟩ := hp
    rw [List.eq_of_mem_replicate he] at hpe
    exact List.eq_of_mem_replicate hpe)
  unfold Oper.wp
  cases base with
  | none =>
    simp only at hcells
    have hl0 : len = 0 := by omega
    subst hl0
    rw [key _ _ s2 (run_clear hu hi hiz rfl hzsz), Oper.upon_value]
    refine ⟨_, L, rfl, hR.eqv ⟨fun _ => rfl, fun i => ?_⟩, .tup (.nil _)⟩
    simp only [St.obj_upd, look_one, List.replicate_zero, putAt_nil]
    split
    · rename_i e; subst e; rw [ho']; simp
    · simp
  | some bo =>
    obtain ⟨b, off0⟩ := bo
    obtain ⟨ad, c, hv, hlc, hpos, hq0, hcc⟩ := s2
    have hib : isnil = false := by simpa using hnil
    subst hib
    by_cases hl0 : len = 0
    · subst hl0
      have hn0 : news = [] := List.eq_nil_of_length_eq_zero (by simpa using hnl)
      rw [key _ _ hv (run_clear hu hi hiz (w' := w) (by simp only [hnews, hn0]; rfl) hzsz), Oper.upon_value]
      refine ⟨_, L, rfl, hR.eqv ⟨fun _ => rfl, fun i => ?_⟩, .tup (.nil _)⟩
      simp only [St.obj_upd, look_one, List.replicate_zero, putAt_nil]
      split
      · rename_i e; subst e; rw [ho']; simp
      · simp
    · obtain rfl := hpos (by omega)
      have hfit : off * sz + news.length ≤ cap * sz := by rw [hnl, ← Nat.add_mul]; exact Nat.mul_le_mul_right _ (by omega)
      have hc : ∀ j, j < news.length → ∃ x, w.cell? ⟨b, off0 + off * sz + j, none⟩ = some x ∧ w.frozen? ⟨b, off0 + off * sz + j, none⟩ = false := fun j hj => by
        have := hcells.2 (off * sz + j) (by omega)
        simpa [Nat.add_assoc] using this
      have hst := run_storeCells_cells (P := P) b (off0 + off * sz) news 0 w (fun j hj => by obtain ⟨x, hx, _⟩ := hc j hj; simp [hx]) (fun j hj => by obtain ⟨x, _, hx⟩ := hc j hj; simpa using hx) hone
      rw [Nat.add_zero] at hst
      rw [key _ _ hv (run_clear hu hi hiz (by simp only [hnews]; exact hst) hzsz), Oper.upon_value]
      have hW := R.putRows hR (xs := List.replicate len (deadE sz)) (news := news) (k := off) hl' hcap hes hcells (by rw [List.length_replicate]; omega) hxs hnr
      exact ⟨_, _, rfl, hW, .tup (.nil _)⟩
end
end Go.Sym
