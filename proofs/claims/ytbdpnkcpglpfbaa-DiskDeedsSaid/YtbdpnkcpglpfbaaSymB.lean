/- The states of the logic 'Sym', what it means that a frame and a world stand in such a state, steps, and regions in whatever order is drawn. -/
import Derived.Test.YtbdpnkcpglpfbaaSymA
namespace Go.Sym
open Go.RowKit

inductive SObj where
  | box (cs : List PV)
  | arr (sz : Nat) (isnil : Bool) (es : List PV)
  | gone
  | arrc (sz : Nat) (isnil : Bool) (es : List PV) (cap : Nat)

def look {α : Type} : List (Nat × α) → Nat → Option α
  | [], _ => none
  | (k, x) :: r, n => cond (Nat.beq k n) (some x) (look r n)

theorem look_cons {α : Type} (k n : Nat) (x : α) (r : List (Nat × α)) : look ((k, x) :: r) n = if k = n then some x else look r n := by
  simp only [look]
  cases h : Nat.beq k n
  · rw [if_neg (by intro e; subst e; simp at h)]; rfl
  · rw [if_pos (Nat.eq_of_beq_eq_true h)]; rfl

theorem look_append {α : Type} (a b : List (Nat × α)) (n : Nat) : look (a ++ b) n = (look a n).or (look b n) := by
  induction a with
  | nil => simp [look]
  | cons x r ih =>
    obtain ⟨k, x⟩ := x
    rw [List.cons_append, look_cons, look_cons, ih]
    split <;> simp

structure St where
  t : List (Nat × PV)
  o : List (Nat × SObj)

def St.get (S : St) (t : Nat) : Option PV := look S.t t
def St.obj (S : St) (n : Nat) : Option SObj := look S.o n

structure Delta where
  val : PV
  objs : List (Nat × SObj)

def St.put (S : St) (dst : Option Nat) (x : PV) : St := ⟨match dst with | some k => (k, x) :: S.t | none => S.t, S.o⟩
def St.upd (S : St) (l : List (Nat × SObj)) : St := ⟨S.t, l ++ S.o⟩
def St.app (S : St) (dst : Option Nat) (d : Delta) : St := (S.upd d.objs).put dst d.val

def St.eqv (S S' : St) : Prop := (∀ t, S.get t = S'.get t) ∧ ∀ n, S.obj n = S'.obj n
theorem St.eqv.refl (S : St) : S.eqv S := ⟨fun _ => rfl, fun _ => rfl⟩
theorem St.eqv.symm {S S' : St} (h : S.eqv S') : S'.eqv S := ⟨fun t => (h.1 t).symm, fun n => (h.2 n).symm⟩
theorem St.eqv.trans {a b c : St} (h : a.eqv b) (k : b.eqv c) : a.eqv c := ⟨fun t => (h.1 t).trans (k.1 t), fun n => (h.2 n).trans (k.2 n)⟩

@[simp] theorem St.get_put (S : St) (dst : Option Nat) (x : PV) (t : Nat) : (S.put dst x).get t = if dst = some t then some x else S.get t := by
  cases dst with
  | none => simp [St.put, St.get]
  | some k => simp [St.put, St.get, look_cons]
@[simp] theorem St.get_upd (S : St) (l : List (Nat × SObj)) (t : Nat) : (S.upd l).get t = S.get t := rfl
@[simp] theorem St.obj_put (S : St) (dst : Option Nat) (x : PV) (n : Nat) : (S.put dst x).obj n = S.obj n := by cases dst <;> rfl
@[simp] theorem St.obj_upd (S : St) (l : List (Nat × SObj)) (n : Nat) : (S.upd l).obj n = (look l n).or (S.obj n) := by simp [St.upd, St.obj, look_append]

theorem look_none {α : Type} {l : List (Nat × α)} {n : Nat} (h : n ∉ l.map (·.1)) : look l n = none := by
  induction l with
  | nil => rfl
  | cons x r ih =>
    obtain ⟨k, x⟩ := x
    simp at h
    rw [look_cons, if_neg (fun e => h.1 e.symm)]
    exact ih (by simpa using h.2)

/-- The cells from a place on represent these. -/
def CellsAt (w : World) (F : Nat → Prop) (L : LMap) (cs : List PV) (b off : Nat) : Prop :=
  ∀ j c, cs[j]? = some c → ∃ x, w.cell? ⟨b, off + j, none⟩ = some x ∧ w.frozen? ⟨b, off + j, none⟩ = false ∧ Rep w F L c x

def cellsOf (es : List PV) : List PV := es.flatMap PV.cells

def ObjAt (w : World) (F : Nat → Prop) (L : LMap) : SObj → Loc → Prop
  | .box cs, .box b off n => n = cs.length ∧ CellsAt w F L cs b off
  | .arr sz isnil es, .arr base n cap sz' => sz' = sz ∧ n = es.length ∧ n ≤ cap ∧ isnil = base.isNone ∧ (∀ e ∈ es, e.cells.length = sz) ∧
      match base with
      | none => cap = 0
      | some (b, off) => CellsAt w F L (cellsOf es) b off ∧ ∀ j, j < cap * sz → ∃ x, w.cell? ⟨b, off + j, none⟩ = some x ∧ w.frozen? ⟨b, off + j, none⟩ = false
  | .arrc sz isnil es c, .arr base n cap sz' => c = cap ∧ sz' = sz ∧ n = es.length ∧ n ≤ cap ∧ isnil = base.isNone ∧ (∀ e ∈ es, e.cells.length = sz) ∧
      match base with
      | none => cap = 0
      | some (b, off) => CellsAt w F L (cellsOf es) b off ∧ ∀ j, j < cap * sz → ∃ x, w.cell? ⟨b, off + j, none⟩ = some x ∧ w.frozen? ⟨b, off + j, none⟩ = false
  | .gone, .gone => True
  | _, _ => False

/-- What stays fixed while a function runs: the world at its entry, blocks that are somebody else's, the places of the objects that came in, the number of slots. -/
structure Fr where
  w0 : World
  X : Nat → Prop
  par : List (Nat × Nat × Nat)
  L0 : LMap
  nt : Nat

def Fr.F (fr : Fr) (L : LMap) : Nat → Prop := fun b => fr.X b ∨ ∃ o l, L o = some l ∧ l.blk = some b

def Loc.range : Loc → Option (Nat × Nat × Nat)
  | .box b off n => some (b, off, n)
  | .arr (some (b, off)) _ cap sz => some (b, off, cap * sz)
  | _ => none

/-- Of the memory that was there at the entry only the places of what came in have turned. -/
structure Frame0 (fr : Fr) (w : World) : Prop where
  os : w.os = fr.w0.os
  tape : w.tape = fr.w0.tape
  output : w.output = fr.w0.output
  size : fr.w0.heap.size ≤ w.heap.size
  block : ∀ b, b < fr.w0.heap.size → (∀ p ∈ fr.par, p.1 ≠ b) → w.heap[b]? = fr.w0.heap[b]?
  part : ∀ p ∈ fr.par, ∃ c c' e f, fr.w0.heap[p.1]? = some (.cells c e f) ∧ w.heap[p.1]? = some (.cells c' e f) ∧ c'.size = c.size ∧
    ∀ j, (j < p.2.1 ∨ p.2.1 + p.2.2 ≤ j) → c'[j]? = c[j]?

structure RM (fr : Fr) (S : St) (L : LMap) (w : World) : Prop where
  objs : ∀ n ob, S.obj n = some ob → ∃ l, L n = some l ∧ ObjAt w (fr.F L) L ob l
  dom : ∀ n l, L n = some l → ∃ ob, S.obj n = some ob
  inj : ∀ n n' l l' b, L n = some l → L n' = some l' → l.blk = some b → l'.blk = some b → n = n'
  place : ∀ n l b, L n = some l → l.blk = some b → ¬ fr.X b ∧ ((fr.w0.heap.size ≤ b ∧ b < w.heap.size) ∨ ∃ p ∈ fr.par, l.range = some p)
  kind : ∀ n l b, L n = some l → l.blk = some b → ∃ c e, w.heap[b]? = some (.cells c e (0, 0))
  parLt : (∀ p ∈ fr.par, p.1 < fr.w0.heap.size) ∧ ∀ p ∈ fr.par, ∀ q ∈ fr.par, p.1 = q.1 → p = q
  xLt : ∀ b, fr.X b → b < fr.w0.heap.size
  frame : Frame0 fr w
  lext : LExt fr.L0 L

structure R (fr : Fr) (S : St) (L : LMap) (a : Act) (w : World) : Prop where
  mem : RM fr S L w
  nt : a.tmps.size = fr.nt
  defers : a.defers = []
  vals : ∀ t p, S.get t = some p → ∃ x, a.tmps[t]? = some x ∧ Rep w (fr.F L) L p x

theorem RM.eqv {fr : Fr} {S S' : St} {L : LMap} {w : World} (h : RM fr S L w) (he : S.eqv S') : RM fr S' L w :=
  ⟨fun n ob hn => h.objs n ob (by rw [he.2]; exact hn), fun n l hl => by rw [← he.2]; exact h.dom n l hl, h.inj, h.place, h.kind, h.parLt, h.xLt, h.frame, h.lext⟩
theorem R.eqv {fr : Fr} {S S' : St} {L : LMap} {a : Act} {w : World} (h : R fr S L a w) (he : S.eqv S') : R fr S' L a w :=
  ⟨h.mem.eqv he, h.nt, h.defers, fun t p hp => h.vals t p (by rw [he.1]; exact hp)⟩

def _root_.Go.Oper.tmps (o : Oper) : List Nat := o.op.operands.toList.filterMap fun | .tmp t => some t | _ => none

/-- An operation does this to every state that agrees with S on what it looks at. -/
def FStep (P : Program) (o : Oper) (S : St) (rn : List Nat) (d : Delta) : Prop :=
  ∀ (fr : Fr) (S' : St), (∀ t ∈ o.tmps, S'.get t = S.get t) → (∀ n ∈ rn, S'.obj n = S.obj n) → ∀ L a w, R fr S' L a w →
    ∀ Q, o.wp P a w (fun a' w' => ∃ x L', a' = a.put o.dst x ∧ R fr (S'.upd d.objs) L' a w' ∧ Rep w' (fr.F L') L' d.val x) Q

theorem FStep.agree {P : Program} {o : Oper} {S S₁ : St} {rn : List Nat} {d : Delta} (h : FStep P o S rn d) (ht : ∀ t ∈ o.tmps, S₁.get t = S.get t)
    (hn : ∀ n ∈ rn, S₁.obj n = S.obj n) : FStep P o S₁ rn d :=
  fun fr S' a b => h fr S' (fun t m => (a t m).trans (ht t m)) (fun n m => (b n m).trans (hn n m))

/-! Guards -/
def gpick (want g : Bool) : Bool := cond want g (!g)
def gval (ops : Array Oper) (S : St) (j : Nat) (want : Bool) : Option Bool :=
  match (ops[j]?).bind (·.dst) with
  | none => none
  | some t => match S.get t with
    | some (.v (.bool g)) => some (gpick want g)
    | some (.opt b (.v (.bool g))) => some (b && gpick want g)
    | _ => none

inductive GStep (P : Program) (ops : Array Oper) (o : Oper) (S : St) : List Nat → Delta → Prop
  | plain {rn : List Nat} {d : Delta} : o.guard = none → FStep P o S rn d → GStep P ops o S rn d
  | on {j : Nat} {want γ : Bool} {rn : List Nat} {d : Delta} : o.guard = some (j, want) → gval ops S j want = some γ → γ = true → FStep P o S rn d → GStep P ops o S rn d
  | off {j : Nat} {want γ : Bool} : o.guard = some (j, want) → gval ops S j want = some γ → γ = false → GStep P ops o S [] ⟨.v undef, []⟩
  | sym {j : Nat} {want γ : Bool} {rn : List Nat} {x : PV} : o.guard = some (j, want) → gval ops S j want = some γ → (γ = true → FStep P o S rn ⟨x, []⟩) →
      GStep P ops o S rn ⟨.opt γ x, []⟩

theorem looks_tmps (ops : Array Oper) (o : Oper) (t : Nat) (h : t ∈ o.tmps) : t ∈ o.looksAt ops := by
  unfold Oper.looksAt
  exact List.mem_append_left _ h
theorem looks_guard {ops : Array Oper} {o : Oper} {j : Nat} {want : Bool} {t : Nat} (hg : o.guard = some (j, want)) (h : (ops[j]?).bind (·.dst) = some t) : t ∈ o.looksAt ops := by
  unfold Oper.looksAt
  refine List.mem_append_right _ ?_
  rw [hg]
  simp only [h, Option.toList_some, List.mem_singleton]

theorem gval_agree {ops : Array Oper} {S S₁ : St} {o : Oper} {j : Nat} {want : Bool} (hg : o.guard = some (j, want)) (h : ∀ t ∈ o.looksAt ops, S₁.get t = S.get t) :
    gval ops S₁ j want = gval ops S j want := by
  unfold gval
  cases hb : (ops[j]?).bind (·.dst) with
  | none => rfl
  | some t => simp only []; rw [h t (looks_guard hg hb)]

theorem GStep.agree {P : Program} {ops : Array Oper} {o : Oper} {S S₁ : St} {rn : List Nat} {d : Delta} (h : GStep P ops o S rn d) (ht : ∀ t ∈ o.looksAt ops, S₁.get t = S.get t)
    (hn : ∀ n ∈ rn, S₁.obj n = S.obj n) : GStep P ops o S₁ rn d := by
  have ht' : ∀ t ∈ o.tmps, S₁.get t = S.get t := fun t m => ht t (looks_tmps ops o t m)
  cases h with
  | plain hg hf => exact .plain hg (hf.agree ht' hn)
  | on hg hv hγ hf => exact .on hg ((gval_agree hg ht).trans hv) hγ (hf.agree ht' hn)
  | off hg hv hγ => exact .off hg ((gval_agree hg ht).trans hv) hγ
  | sym hg hv hf => exact .sym hg ((gval_agree hg ht).trans hv) (fun e => (hf e).agree ht' hn)

theorem R.put {fr : Fr} {S : St} {L : LMap} {a : Act} {w : World} {dst : Option Nat} {p : PV} {x : Value} (h : R fr S L a w) (hd : ∀ d, dst = some d → d < fr.nt)
    (hx : Rep w (fr.F L) L p x) : R fr (S.put dst p) L (a.put dst x) w := by
  refine ⟨⟨fun n ob => ?_, fun n l hl => ?_, h.mem.inj, h.mem.place, h.mem.kind, h.mem.parLt, h.mem.xLt, h.mem.frame, h.mem.lext⟩, ?_, ?_, fun t q hq => ?_⟩
  · rw [St.obj_put]; exact h.mem.objs n ob
  · rw [St.obj_put]; exact h.mem.dom n l hl
  · cases dst <;> simp [Act.put, h.nt]
  · cases dst <;> simp [Act.put, h.defers]
  · rw [St.get_put] at hq
    cases dst with
    | none => simp at hq; simpa [Act.put] using h.vals t q hq
    | some d =>
      simp only [Act.put, Option.some.injEq] at hq ⊢
      split at hq
      · rename_i e; subst e
        simp only [Option.some.injEq] at hq
        subst hq
        have : d < a.tmps.size := by rw [h.nt]; exact hd d rfl
        exact ⟨x, by simp [this], hx⟩
      · rename_i e
        obtain ⟨y, hy, hr⟩ := h.vals t q hq
        exact ⟨y, by rw [Array.getElem?_setIfInBounds_ne e]; exact hy, hr⟩

theorem gval_yield {fr : Fr} {ops : Array Oper} {S : St} {L : LMap} {a : Act} {w : World} {j : Nat} {want γ : Bool} (h : R fr S L a w) (hv : gval ops S j want = some γ) :
    (yielded ops a.tmps j == some want) = γ := by
  unfold gval at hv
  unfold yielded
  cases hb : (ops[j]?).bind (·.dst) with
  | none => rw [hb] at hv; simp at hv
  | some t =>
    rw [hb] at hv
    simp only [Option.bind_some] at hv ⊢
    cases hg : S.get t with
    | none => rw [hg] at hv; simp at hv
    | some p =>
      obtain ⟨x, hx, hr⟩ := h.vals t p hg
      rw [hg] at hv
      rw [hx]
      split at hv <;> simp at hv
      · rename_i g e
        simp at e; subst e
        cases hr
        subst hv
        cases want <;> cases g <;> rfl
      · rename_i b g e
        simp at e; subst e
        cases hr with
        | opt h1 h2 =>
          cases b with
          | true =>
            have := h1 rfl
            cases this
            subst hv
            cases want <;> cases g <;> rfl
          | false => have := h2 rfl; subst this; subst hv; simp [undef]

theorem GStep.sound {P : Program} {ops : Array Oper} {o : Oper} {S : St} {rn : List Nat} {d : Delta} (h : GStep P ops o S rn d) {fr : Fr} {L : LMap} {a : Act} {w : World}
    (hR : R fr S L a w) (hd : ∀ k, o.dst = some k → k < fr.nt) {i : Nat} (hi : ops[i]? = some o) (Q : Exit → Act → World → Prop) (K : Act → World → Prop)
    (hK : ∀ L' a' w', R fr (S.app o.dst d) L' a' w' → K a' w') : wpOp P ops Q i K a w := by
  have hnil : ∀ {p : PV} {x : Value}, Rep w (fr.F L) L p x → R fr (S.app o.dst ⟨p, []⟩) L (a.put o.dst x) w := fun hx =>
    R.put (S := S.upd []) (hR.eqv ⟨fun _ => rfl, fun n => by simp [look]⟩) hd hx
  unfold wpOp
  rw [hi]
  simp only []
  cases h with
  | plain hg hf =>
    simp only [Region.wanted, hg, if_true]
    refine .inl (Oper.wp_mono ?_ (hf fr S (fun _ _ => rfl) (fun _ _ => rfl) L a w hR Q))
    rintro a' w' ⟨x, L', rfl, h1, h2⟩
    exact hK L' _ _ (h1.put hd h2)
  | on hg hv hγ hf =>
    have := gval_yield hR hv
    simp only [Region.wanted, hg, this, hγ, if_true]
    refine .inl (Oper.wp_mono ?_ (hf fr S (fun _ _ => rfl) (fun _ _ => rfl) L a w hR Q))
    rintro a' w' ⟨x, L', rfl, h1, h2⟩
    exact hK L' _ _ (h1.put hd h2)
  | off hg hv hγ =>
    have := gval_yield hR hv
    simp only [Region.wanted, hg, this, hγ]
    exact hK L _ _ (hnil (.v _ _))
  | sym hg hv hf =>
    rename_i j want γ x
    have := gval_yield hR hv
    simp only [Region.wanted, hg, this]
    cases γ with
    | false => exact hK L _ _ (hnil (.opt (by simp) (fun _ => rfl)))
    | true =>
      simp only [if_true]
      refine .inl (Oper.wp_mono ?_ (hf rfl fr S (fun _ _ => rfl) (fun _ _ => rfl) L a w hR Q))
      rintro a' w' ⟨x', L', rfl, h1, h2⟩
      exact hK L' _ _ (h1.put hd (.opt (fun _ => h2) (by simp)))
end Go.Sym
