/- A part of the proof: SymT. -/
import Derived.Test.YtbnnmnbidkpmcaaGreatDoorPart14
set_option linter.unusedVariables false
set_option linter.unusedSimpArgs false
namespace Go.Sym
open Go.RowKit
section
variable {P : Program} {T : Tbl} {fr : Fr} {S S' : St} {L : LMap} {a : Act} {w : World} {γ : Bool}
variable {ty : Nat} {pos : String} {aft : Array Edge} {g : Option (Nat × Bool)} {dst : Option Nat}
theorem R.arrc {o sz c : Nat} {isnil : Bool} {es : List PV} (h : R fr S L a w) (ho : S.obj o = some (.arrc sz isnil es c)) : ∃ base, L o = some (.arr base es.length c sz) ∧ es.length ≤ c ∧ isnil = base.isNone ∧ (∀ e ∈ es, e.cells.length = sz) ∧
    match base with
    | none => c = 0
    | some (b, off) => CellsAt w (fr.F L) L (cellsOf es) b off ∧ ∀ j, j < c * sz → ∃ x, w.cell? ⟨b, off + j, none⟩ = some x ∧ w.frozen? ⟨b, off + j, none⟩ = false := by
  obtain ⟨l, h1, h2⟩ := h.mem.objs o _ ho
  cases l with
  | arr base n cap sz' => obtain ⟨rfl, rfl, rfl, h3, h4, h5, h6⟩ := h2; exact ⟨base, h1, h3, h4, h5, h6⟩
  | box => exact h2.elim
  | gone => exact h2.elim
  | map => exact h2.elim
theorem run_sliceBoundsX (len cap : Nat) {lo : Option Operand} {hi : Operand} {lo' : Option Int} {k : IntKind} {i : Int} (hγ : γ = true) (h1 : OptI γ S lo lo') (h2 : OpdO γ S hi (.v (.int k i))) (hR : R fr S' L a w)
    (hto : ∀ x, lo = some x → ∀ t, x = .tmp t → S'.get t = S.get t) (hti : ∀ t, hi = .tmp t → S'.get t = S.get t) (hb : boundsOk cap lo' (some i)) :
    (Instr.sliceBounds true len cap (lo.map a.eval) (some (a.eval hi)) none).run P w = .ok (loOf lo', i.toNat, cap) w := by
  obtain ⟨hb1, hb2⟩ := hb
  have e2 := (h2.rep hγ hR hti).inv_v
  have h4 := hb1 _ rfl
  have h5 := run_sliceBound (P := P) (w := w) (y := cap) (code := .sliceAcap) e2 ⟨h4.1, by omega⟩
  cases h1 with
  | none =>
    simp only [Instr.sliceBounds, Option.map_none, Sem.run_bind, Sem.run_pure, Result.andThen_ok, if_true, h5]
    rfl
  | some hx =>
    have e1 := (hx.rep hγ hR (hto _ rfl)).inv_v
    have h3 := hb2 _ rfl
    simp only [hiOf] at h3
    rename_i _ _ j
    have h6 := run_sliceBound (P := P) (w := w) (y := i.toNat) (code := .sliceB) e1 ⟨h3.1, by omega⟩
    simp only [Instr.sliceBounds, Option.map_some, Sem.run_bind, Sem.run_pure, Result.andThen_ok, if_true, h5, Option.isSome_none, Bool.false_eq_true, if_false, h6]
    rfl
theorem slice_some (hT : TOk P T) {t e : TypeId} {x hi : Operand} {lo : Option Operand} {b ad len c l i : Nat} {ti ei : TI} (hv : a.eval x = .slice (some ⟨b, ad, none⟩) len c) (hl : look T t = some ti) (htd : ti.d = .slice e) (he : look T e = some ei) (hbs : (Instr.sliceBounds true len c (lo.map a.eval) (some (a.eval hi)) none).run P w = .ok (l, i, c) w) :
    (execOp a.eval ⟨dst, .slice t x lo (some hi) none, ty, pos, aft, g⟩).run P w = .ok (.value (.slice (some ⟨b, if c = l then ad else ad + l * ei.size, none⟩) (i - l) (c - l))) w := by
  simp [execOp, Instr.sliceAt, Instr.slice, hv, run_underlying (und_slice hT hl htd), hbs, elemSize hT he]
  split <;> simp [Addr.add_lit]
theorem slice_sub {L : LMap} {F : Nat → Prop} {o b off0 m cap sz n c l i : Nat} (hl' : L o = some (.arr (some (b, off0)) m cap sz)) (hm : n = m) (hcc : c = cap) (hic : i ≤ m) (hmc : m ≤ cap) (hli : l ≤ i) :
    Rep w F L (.osl o l (i - l) n) (.slice (some ⟨b, if c = l then off0 else off0 + l * sz, none⟩) (i - l) (c - l)) := by
  refine .osl hl' ⟨by omega, fun _ => ⟨by omega, _, _, rfl, by omega, fun hp => ?_, fun h0 => ?_, by omega⟩⟩ ⟨_, _, _, rfl⟩
  · rw [if_neg (by omega)]
  · subst h0; simp
theorem Trip.openCap [Globs P] {nt : Nat} {o sz : Nat} {isnil : Bool} {es : List PV} {c : Code} {Q : Exit → St → Prop} (ho : S.obj o = some (.arr sz isnil es)) (h : ∀ cap, es.length ≤ cap → (isnil = true → cap = 0) → Trip P nt (S.upd [(o, .arrc sz isnil es cap)]) c Q) : Trip P nt S c Q := by
  intro fr hnt hG L a w hR
  obtain ⟨base, cap, hl', hcap, hnil, hes, hcells⟩ := hR.arr ho
  refine h cap hcap (fun hi => by rw [hnil] at hi; cases base with | none => exact hcells | some p => simp at hi) fr hnt hG L a w ⟨⟨fun n ob hn => ?_, fun n l hn => ?_, hR.mem.inj, hR.mem.place, hR.mem.kind, hR.mem.parLt, hR.mem.xLt, hR.mem.frame, hR.mem.lext⟩, hR.nt, hR.defers, fun t p hp => hR.vals t p (by simpa using hp)⟩
  · simp only [St.obj_upd, look_one] at hn
    split at hn
    · rename_i e; subst e
      simp at hn; subst hn
      exact ⟨_, hl', rfl, rfl, rfl, hcap, hnil, hes, hcells⟩
    · simp at hn; exact hR.mem.objs n ob hn
  · simp only [St.obj_upd, look_one]
    split
    · exact ⟨_, rfl⟩
    · simpa using hR.mem.dom n l hn
theorem Weak.closeCap {nt : Nat} {o sz c : Nat} {isnil : Bool} {es : List PV} (ho : S.obj o = some (.arrc sz isnil es c)) : Weak nt S (S.upd [(o, .arr sz isnil es)]) := by
  intro fr hnt L a w hR
  obtain ⟨base, hl', hcap, hnil, hes, hcells⟩ := hR.arrc ho
  refine ⟨L, ⟨fun n ob hn => ?_, fun n l hn => ?_, hR.mem.inj, hR.mem.place, hR.mem.kind, hR.mem.parLt, hR.mem.xLt, hR.mem.frame, hR.mem.lext⟩, hR.nt, hR.defers, fun t p hp => hR.vals t p (by simpa using hp)⟩
  · simp only [St.obj_upd, look_one] at hn
    split at hn
    · rename_i e; subst e
      simp at hn; subst hn
      exact ⟨_, hl', rfl, rfl, hcap, hnil, hes, hcells⟩
    · simp at hn; exact hR.mem.objs n ob hn
  · simp only [St.obj_upd, look_one]
    split
    · exact ⟨_, rfl⟩
    · simpa using hR.mem.dom n l hn
theorem F_cap [Globs P] (hT : TOk P T) (hγ : γ = true) {t : TypeId} {x : Operand} {o off len n sz c e : Nat} {isnil : Bool} {es : List PV} {ti : TI} (hx : OpdO γ S x (.osl o off len n)) (hl : look T t = some ti) (htd : ti.d = .slice e) (ho : S.obj o = some (.arrc sz isnil es c)) (hs : Side (n = es.length)) :
    FStep P ⟨dst, .call { callee := .builtin .cap, args := #[x], argTypes := #[t] }, ty, pos, aft, g⟩ S [o] ⟨iV (c - off : Nat), []⟩ := by
  refine FStep.val fun fr S' L a w ht hn hR => ?_
  have hr := hx.rep hγ hR (ht x (by simp [Op.operands, Call.operands]))
  obtain ⟨base, hl', hcap, hnil, _, hcells⟩ := hR.arrc ((hn _ (by simp)).trans ho)
  obtain ⟨s1, s2⟩ := hr.osl_at hl' hs
  have hs' : n = es.length := hs
  have key : ∀ bs len c, a.eval x = .slice bs len c → (execOp a.eval ⟨dst, .call { callee := .builtin .cap, args := #[x], argTypes := #[t] }, ty, pos, aft, g⟩).run P w = .ok (.value (goInt c)) w := fun bs len c hv => by
    simp only [execOp, resolve, Sem.run_bind, Sem.run_pure, Result.andThen_ok, invoke, builtin]
    simp [hv, Builtin.cap_, run_underlying (und_slice hT hl htd)]
  cases base with
  | none =>
    simp only at hcells
    subst hcells
    exact ⟨_, key _ _ _ s2, by simp; exact .v _ _⟩
  | some bo =>
    obtain ⟨b, off0⟩ := bo
    obtain ⟨ad, c', hv, hlc, hpos, hq0, hcc⟩ := s2
    subst hcc
    exact ⟨_, key _ _ _ hv, .v _ _⟩
theorem F_sliceC [Globs P] (hT : TOk P T) (hγ : γ = true) {t e : TypeId} {x : Operand} {lo hi : Option Operand} {lo' hi' : Option Int} {o len n sz c : Nat} {isnil : Bool} {es : List PV} {ti ei : TI} (hx : OpdO γ S x (.osl o 0 len n)) (h1 : OptI γ S lo lo') (h2 : OptI γ S hi hi') (hl : look T t = some ti) (htd : ti.d = .slice e)
    (ho : S.obj o = some (.arrc sz isnil es c)) (he : look T e = some ei) (hes' : ei.size = sz) (hs : Side (n = es.length)) (hb : Side (boundsOk len lo' hi')) : FStep P ⟨dst, .slice t x lo hi none, ty, pos, aft, g⟩ S [o] ⟨.osl o (loOf lo') (hiOf len hi' - loOf lo') n, []⟩ := by
  refine FStep.val fun fr S' L a w ht hn hR => ?_
  have hr := hx.rep hγ hR (ht x (by simp [Op.operands]))
  have hto : ∀ y, lo = some y → ∀ t, y = .tmp t → S'.get t = S.get t := fun y hy => ht y (by subst hy; simp [Op.operands])
  have hti : ∀ y, hi = some y → ∀ t, y = .tmp t → S'.get t = S.get t := fun y hy => ht y (by subst hy; simp [Op.operands])
  obtain ⟨base, hl', hcap, hnil, _, hcells⟩ := hR.arrc ((hn _ (by simp)).trans ho)
  obtain ⟨s1, s2⟩ := hr.osl_at hl' hs
  have hs' : n = es.length := hs
  have hb' : boundsOk len lo' hi' := hb
  have hlen : hiOf len hi' ≤ len := by
    unfold hiOf; cases hi' with
    | none => exact Nat.le_refl _
    | some i => have := hb'.1 i rfl; simp only; omega
  have hle : loOf lo' ≤ hiOf len hi' := by
    unfold loOf; cases lo' with
    | none => exact Nat.zero_le _
    | some i => exact (hb'.2 i rfl).2
  cases base with
  | none =>
    simp only at hcells
    have h0 : len = 0 := by omega
    subst h0
    have hbs := run_sliceBounds (P := P) true 0 0 0 hγ h1 h2 rfl (Nat.le_refl _) hR hto hti hb
    have e1 : hiOf 0 hi' = 0 := by omega
    have e2 : loOf lo' = 0 := by omega
    rw [e1, e2] at hbs ⊢
    refine ⟨.slice none 0 0, ?_, .osl hl' ⟨by omega, fun _ => ⟨by omega, rfl⟩⟩ ⟨_, _, _, rfl⟩⟩
    simp [execOp, Instr.sliceAt, Instr.slice, s2, run_underlying (und_slice hT hl htd), hbs, elemSize hT he]
  | some bo =>
    obtain ⟨b, off0⟩ := bo
    obtain ⟨ad, c', hv, hlc, hpos, hq0, hcc⟩ := s2
    obtain rfl := hq0 rfl
    have hbs := run_sliceBounds (P := P) true len c' len hγ h1 h2 rfl hlc hR hto hti hb
    refine ⟨.slice (some ⟨b, if c' = loOf lo' then ad else ad + loOf lo' * ei.size, none⟩) (hiOf len hi' - loOf lo') (c' - loOf lo'), ?_, ?_⟩
    · simp [execOp, Instr.sliceAt, Instr.slice, hv, run_underlying (und_slice hT hl htd), hbs, elemSize hT he]
      split <;> simp [Addr.add_lit]
    · rw [hes']
      exact slice_sub hl' hs (by omega) (by omega) hcap hle
theorem F_sliceUp [Globs P] (hT : TOk P T) (hγ : γ = true) {t e : TypeId} {x hi : Operand} {k : IntKind} {i : Int} {o len n sz c : Nat} {isnil : Bool} {es : List PV} {ti ei : TI} (hx : OpdO γ S x (.osl o 0 len n)) (h2 : OpdO γ S hi (.v (.int k i))) (hl : look T t = some ti) (htd : ti.d = .slice e)
    (ho : S.obj o = some (.arrc sz isnil es c)) (he : look T e = some ei) (hes' : ei.size = sz) (hs : Side (n = es.length)) (hb : Side ((n : Int) < i ∧ i ≤ c)) : FStep P ⟨dst, .slice t x none (some hi) none, ty, pos, aft, g⟩ S [o] ⟨.osl o 0 i.toNat i.toNat, [(o, .arr sz isnil (es ++ List.replicate (i.toNat - n) (deadE sz)))]⟩ := by
  intro fr S' ht hn L a w hR hG Q
  have hr := hx.rep hγ hR (fun t e => ht t (mem_tmps (x := x) (by simp [Op.operands]) t e))
  have hti : ∀ t, hi = .tmp t → S'.get t = S.get t := fun t e => ht t (mem_tmps (x := hi) (by simp [Op.operands]) t e)
  have ho' := (hn o (by simp)).trans ho
  obtain ⟨base, hl', hcap, hnil, hes, hcells⟩ := hR.arrc ho'
  obtain ⟨s1, s2⟩ := hr.osl_at hl' hs
  have hs' : n = es.length := hs
  obtain ⟨b1, b2⟩ : (n : Int) < i ∧ i ≤ c := hb
  cases base with
  | none =>
    simp only at hcells
    have hc0 : c = 0 := hcells
    omega
  | some bo =>
    obtain ⟨b, off0⟩ := bo
    obtain ⟨ad, c', hv, hlc, hpos, hq0, hcc⟩ := s2
    obtain rfl := hq0 rfl
    rw [Nat.sub_zero] at hcc
    subst hcc
    have hib : isnil = false := by simpa using hnil
    subst hib
    have hbs := run_sliceBoundsX (P := P) (lo := none) (lo' := none) len c' hγ .none h2 hR (fun y hy => by cases hy) hti ⟨fun j hj => by cases hj; omega, fun j hj => by cases hj⟩
    unfold Oper.wp
    rw [slice_some (lo := none) hT hv hl htd he hbs, Oper.upon_value]
    have hnl : (es ++ List.replicate (i.toNat - n) (deadE sz)).length = i.toNat := by simp; omega
    have hW := R.step' hR o (.arr sz false (es ++ List.replicate (i.toNat - n) (deadE sz))) (.arr (some (b, ad)) i.toNat c' sz) hR.mem.frame (Nat.le_refl _) (fun _ _ _ => rfl) (fun l0 h => by
        rw [hl'] at h; cases h
        exact ⟨fun off x _ => trivial, fun off' len k x hk => ⟨by have := hk.1; omega, fun h => by have := hk.1; omega⟩, fun i' off' k x hk => ⟨by have := hk.1; omega, fun h => by have := hk.1; omega⟩⟩)
      (fun b' hb2 => .inl ⟨_, hl', by simpa [Loc.blk] using hb2, rfl⟩) (fun p hp2 => (hR.mem.kind o _ p hl' (by simpa [Loc.range] using hp2)).to rfl (fun h => h)) (fun hext hlx => ⟨rfl, hnl.symm, by omega, rfl, fun e he => ?_, fun j p hj => ?_, hcells.2⟩)
    · refine ⟨_, _, rfl, hW.1, ?_⟩
      have := oslFull (w := w) (F := fr.F (L.set o (.arr (some (b, ad)) i.toNat c' sz))) (k := o) (L := L.set o (.arr (some (b, ad)) i.toNat c' sz)) (b := b) (off := ad) (n := i.toNat) (cap := c') (sz := sz) (by simp [LMap.set]) (by omega)
      simpa [loOf] using this
    · rcases List.mem_append.1 he with he | he
      · exact hes e he
      · rw [List.eq_of_mem_replicate he]; simp [deadE, PV.cells]
    · rw [cellsOf_append, List.getElem?_append] at hj
      split at hj
      · obtain ⟨x, k1, k2, k3⟩ := hcells.1 j p hj
        exact ⟨x, k1, k2, k3.mono hext hlx⟩
      · rename_i hge
        have hjl := (List.getElem?_eq_some_iff.1 hj).1
        have hp : p = .dead := by
          have hmem := List.mem_of_getElem? hj
          simp only [cellsOf, List.mem_flatMap] at hmem
          obtain ⟨e, he, hpe⟩ := hmem
          rw [List.eq_of_mem_replicate he] at hpe
          exact List.eq_of_mem_replicate hpe
        subst hp
        have hl1 : (cellsOf es).length = es.length * sz := cellsOf_length hes
        have hl2 : (cellsOf (List.replicate (i.toNat - n) (deadE sz))).length = (i.toNat - n) * sz := by
          rw [cellsOf_length (sz := sz) (fun e he => by rw [List.eq_of_mem_replicate he]; simp [deadE, PV.cells])]; simp
        have hfit : es.length * sz + (i.toNat - n) * sz ≤ c' * sz := by rw [← Nat.add_mul]; exact Nat.mul_le_mul_right _ (by omega)
        obtain ⟨x, k1, k2⟩ := hcells.2 j (by omega)
        exact ⟨x, k1, k2, .dead _ _⟩
end
end Go.Sym
