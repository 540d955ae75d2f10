/- The rules of the logic 'Sym' for single operations, and that they are right. -/
import Derived.Test.YtbdpnkcpglpfbaaSymE
namespace Go.Sym
open Go.RowKit

def rowOk : PV → Bool
  | .v (.agg _) => false
  | .v (.tuple _) => false
  | .tup _ => false
  | .opt _ _ => false
  | .dead => false
  | _ => true

/-- What a cell may hold. -/
def cellOk : PV → Bool
  | .agg _ => false
  | p => rowOk p

theorem Value.cells_of {x : Value} (h : ∀ cs, x ≠ .agg cs) : x.cells = #[x] := by
  cases x <;> first | rfl | (exact absurd rfl (h _))

section
variable {fr : Fr} {S : St} {L : LMap} {a : Act} {w : World}

theorem R.box (hR : R fr S L a w) {o : Nat} {cs : List PV} (h : S.obj o = some (.box cs)) : ∃ b off, L o = some (.box b off cs.length) ∧ CellsAt w (fr.F L) L cs b off := by
  obtain ⟨l, h1, h2⟩ := hR.mem.objs o _ h
  cases l with
  | box b off n => obtain ⟨rfl, h3⟩ := h2; exact ⟨b, off, h1, h3⟩
  | arr => exact h2.elim
  | gone => exact h2.elim

theorem R.arr (hR : R fr S L a w) {o sz : Nat} {isnil : Bool} {es : List PV} (h : S.obj o = some (.arr sz isnil es)) : ∃ base cap, L o = some (.arr base es.length cap sz) ∧ es.length ≤ cap ∧ isnil = base.isNone ∧ (∀ e ∈ es, e.cells.length = sz) ∧
    match base with
    | none => cap = 0
    | some (b, off) => CellsAt w (fr.F L) L (cellsOf es) b off ∧ ∀ j, j < cap * sz → ∃ x, w.cell? ⟨b, off + j, none⟩ = some x ∧ w.frozen? ⟨b, off + j, none⟩ = false := by
  obtain ⟨l, h1, h2⟩ := hR.mem.objs o _ h
  cases l with
  | arr base n cap sz' => obtain ⟨rfl, rfl, h3, h4, h5, h6⟩ := h2; exact ⟨base, cap, h1, h3, h4, h5, h6⟩
  | box => exact h2.elim
  | gone => exact h2.elim

theorem Rep.ref_at {F : Nat → Prop} {o k b off n : Nat} {x : Value} (hl : L o = some (.box b off n)) (h : Rep w F L (.ref o k) x) : x = .pointer (some ⟨b, off + k, none⟩) := by
  cases h with
  | ref h1 h2 _ => rw [hl] at h1; cases h1; exact h2

theorem cellsOf_get {sz : Nat} : ∀ {es : List PV} (_ : ∀ e ∈ es, e.cells.length = sz) {i : Nat} {e : PV} (_ : es[i]? = some e) {j : Nat} {c : PV} (_ : e.cells[j]? = some c), (cellsOf es)[i * sz + j]? = some c
  | [], _, i, e, h, _, _, _ => by simp at h
  | x :: r, hs, 0, e, h, j, c, hc => by
    simp at h; subst h
    have hj : j < x.cells.length := (List.getElem?_eq_some_iff.1 hc).1
    simp only [cellsOf, List.flatMap_cons, Nat.zero_mul, Nat.zero_add]
    rw [List.getElem?_append_left hj]; exact hc
  | x :: r, hs, i + 1, e, h, j, c, hc => by
    have ih := cellsOf_get (es := r) (fun e he => hs e (by simp [he])) (i := i) (by simpa using h) hc
    have hx := hs x (by simp)
    simp only [cellsOf, List.flatMap_cons]
    rw [List.getElem?_append_right (by rw [hx, Nat.succ_mul]; omega), hx, show (i + 1) * sz + j - sz = i * sz + j by rw [Nat.succ_mul]; omega]
    exact ih

theorem cellsOf_length {sz : Nat} : ∀ {es : List PV}, (∀ e ∈ es, e.cells.length = sz) → (cellsOf es).length = es.length * sz
  | [], _ => by simp [cellsOf]
  | x :: r, hs => by
    have ih := cellsOf_length (es := r) (fun e he => hs e (by simp [he]))
    have hx := hs x (by simp)
    simp only [cellsOf, List.flatMap_cons, List.length_append, List.length_cons] at ih ⊢
    rw [ih, hx, Nat.succ_mul]; omega

theorem repL_length {F : Nat → Prop} {L : LMap} : ∀ {cs : List PV} {vs : List Value}, RepL w F L cs vs → cs.length = vs.length
  | [], _, h => by cases h; rfl
  | c :: cs, _, h => by cases h with | cons h1 h2 => simp [repL_length h2]
theorem repL_get {F : Nat → Prop} {L : LMap} : ∀ {cs : List PV} {vs : List Value}, RepL w F L cs vs → ∀ (j : Nat) (c : PV), cs[j]? = some c → ∃ x, vs[j]? = some x ∧ Rep w F L c x
  | [], _, _, j, c, hc => by simp at hc
  | c :: cs, _, h, j, d, hc => by
    cases h with
    | cons h1 h2 =>
      cases j with
      | zero => simp at hc; subst hc; exact ⟨_, rfl, h1⟩
      | succ j => simpa using repL_get h2 j d (by simpa using hc)
theorem repL_of_get {F : Nat → Prop} {L : LMap} : ∀ {cs : List PV} {vs : List Value}, cs.length = vs.length → (∀ (j : Nat) (c : PV), cs[j]? = some c → ∃ x, vs[j]? = some x ∧ Rep w F L c x) → RepL w F L cs vs
  | [], [], _, _ => .nil L
  | [], _ :: _, h, _ => by simp at h
  | _ :: _, [], h, _ => by simp at h
  | c :: cs, x :: vs, h, hg => by
    obtain ⟨y, hy, hr⟩ := hg 0 c rfl
    simp at hy; subst hy
    exact .cons hr (repL_of_get (by simpa using h) fun j d hd => by simpa using hg (j + 1) d (by simpa using hd))

/-- A value's cells, one by one. -/
theorem rep_cells {F : Nat → Prop} {L : LMap} {p : PV} {x : Value} (h : Rep w F L p x) (ho : rowOk p = true) : RepL w F L p.cells x.cells.toList := by
  cases h with
  | agg h => exact h
  | v => cases x <;> first | (simp [rowOk] at ho; done) | (exact .cons (.v _ _) (.nil _))
  | tup => simp [rowOk] at ho
  | opt => simp [rowOk] at ho
  | dead => simp [rowOk] at ho
  | sl h1 h2 h3 => exact .cons (.sl h1 h2 h3) (.nil _)
  | slNil => exact .cons (.slNil _ _) (.nil _)
  | slE => exact .cons (.slE _ _ _) (.nil _)
  | rp h1 => exact .cons (.rp h1) (.nil _)
  | ref h1 h2 h3 => obtain ⟨b, rfl⟩ := h3; exact .cons (.ref h1 h2 ⟨b, rfl⟩) (.nil _)
  | eref h1 h2 h3 => obtain ⟨b, rfl⟩ := h3; exact .cons (.eref h1 h2 ⟨b, rfl⟩) (.nil _)
  | osl h1 h2 h3 => obtain ⟨b, m, c, rfl⟩ := h3; exact .cons (.osl h1 h2 ⟨b, m, c, rfl⟩) (.nil _)
  | clo h1 h2 => exact .cons (.clo h1 h2) (.nil _)
  | ifc h1 => exact .cons (.ifc h1) (.nil _)
/-- A cell's value is one that a store takes. -/
theorem rep_one {F : Nat → Prop} {L : LMap} {p : PV} {x : Value} (h : Rep w F L p x) (ho : cellOk p = true) : x.oneCell' = true := by
  cases h with
  | agg h => simp [cellOk] at ho
  | v => cases x <;> first | (simp [cellOk, rowOk] at ho; done) | rfl
  | tup => simp [cellOk, rowOk] at ho
  | opt => simp [cellOk, rowOk] at ho
  | dead => simp [cellOk, rowOk] at ho
  | ref h1 h2 h3 => obtain ⟨b, rfl⟩ := h3; rfl
  | eref h1 h2 h3 => obtain ⟨b, rfl⟩ := h3; rfl
  | osl h1 h2 h3 => obtain ⟨b, m, c, rfl⟩ := h3; rfl
  | _ => rfl
end
end Go.Sym
