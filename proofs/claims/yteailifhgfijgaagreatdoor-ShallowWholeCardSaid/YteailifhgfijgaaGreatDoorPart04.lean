/- A part of the proof: SymE, SymF. -/
import Derived.Laws.IdiomCopy
import Derived.Laws.AppendOwn
import Derived.Test.YteailifhgfijgaaGreatDoorPart03
set_option linter.unusedVariables false
set_option linter.unusedSimpArgs false
namespace Go.Sym
open Go.RowKit
structure Touch (w w' : World) (b lo n : Nat) : Prop where
 os : w'.os = w.os
 tape : w'.tape = w.tape
 output : w'.output = w.output
 size : w'.heap.size = w.heap.size
 other : ∀ k, k ≠ b → w'.heap[k]? = w.heap[k]?
 block : ∀ c e f, w.heap[b]? = some (.cells c e f) → ∃ c', w'.heap[b]? = some (.cells c' e f) ∧ c'.size = c.size ∧ ∀ j, (j < lo ∨ lo + n ≤ j) → c'[j]? = c[j]?
 rest : (∀ c e f, w.heap[b]? ≠ some (.cells c e f)) → w'.heap[b]? = w.heap[b]?
theorem Touch.refl (w : World) (b lo n : Nat) : Touch w w b lo n := ⟨rfl, rfl, rfl, rfl, fun _ _ => rfl, fun c _ _ h => ⟨c, h, rfl, fun _ _ => rfl⟩, fun _ => rfl⟩
theorem Touch.trans {w w1 w2 : World} {b lo n : Nat} (h : Touch w w1 b lo n) (k : Touch w1 w2 b lo n) : Touch w w2 b lo n := by
 refine ⟨k.os.trans h.os, k.tape.trans h.tape, k.output.trans h.output, k.size.trans h.size, fun i hi => (k.other i hi).trans (h.other i hi), fun c e f hc => ?_, fun hn => ?_⟩
 ·obtain ⟨c1, h1, h2, h3⟩ := h.block c e f hc
  obtain ⟨c2, k1, k2, k3⟩ := k.block c1 e f h1
  exact ⟨c2, k1, k2.trans h2, fun j hj => (k3 j hj).trans (h3 j hj)⟩
 ·have h1 := h.rest hn
  exact (k.rest (fun c e f => by rw [h1]; exact hn c e f)).trans h1
theorem Touch.setCell (w : World) (b lo n o : Nat) (v : Value) (h : lo ≤ o ∧ o < lo + n) : Touch w (w.setCell ⟨b, o, none⟩ v) b lo n := by
 refine ⟨rfl, rfl, rfl, by simp, fun k hk => Below.heap_setCell w ⟨b, o, none⟩ v k hk, fun c e f hc => ?_, fun hn => ?_⟩
 ·refine ⟨c.setIfInBounds o v, ?_, by simp, fun j hj => ?_⟩
  ·simp only [World.setCell, Array.getElem?_modify, ↓reduceIte, hc, Option.map_some]
   simp
  ·rw [Array.getElem?_setIfInBounds_ne (by omega)]
 ·simp only [World.setCell, Array.getElem?_modify, ↓reduceIte]
  cases hb : w.heap[b]? with
  | none => rfl
  | some x =>
   cases x <;> first | rfl | (exact absurd hb (hn _ _ _))
theorem Touch.setCells (b lo n : Nat) : ∀ (vs : List Value) (w : World) (o : Nat), lo ≤ o → o + vs.length ≤ lo + n → Touch w (w.setCells b o vs) b lo n
 | [], w, _, _, _ => Touch.refl w b lo n
 | v :: r, w, o, h1, h2 => by
  simp only [List.length_cons] at h2
  exact (Touch.setCell w b lo n o v ⟨h1, by omega⟩).trans (Touch.setCells b lo n r _ _ (by omega) (by omega))
theorem Touch.cell {w w' : World} {b lo n : Nat} (h : Touch w w' b lo n) {k o : Nat} (hk : k ≠ b ∨ o < lo ∨ lo + n ≤ o) : w'.cell? ⟨k, o, none⟩ = w.cell? ⟨k, o, none⟩ := by
 by_cases hb : k = b
 ·subst hb
  have ho := hk.resolve_left (by simp)
  by_cases hx : ∃ c e f, w.heap[k]? = some (.cells c e f)
  ·obtain ⟨c, e, f, hc⟩ := hx
   obtain ⟨c', h1, _, h3⟩ := h.block c e f hc
   simp only [World.cell?, h1, hc, h3 o ho]
  ·exact World.cell?_of_block (w := w) (h.rest fun c e f hc => hx ⟨c, e, f, hc⟩)
 ·exact World.cell?_of_block (w := w) (h.other k hb)
theorem Touch.frozen {w w' : World} {b lo n : Nat} (h : Touch w w' b lo n) (x : Addr) : w'.frozen? x = w.frozen? x := by
 by_cases hb : x.block = b
 ·by_cases hx : ∃ c e f, w.heap[b]? = some (.cells c e f)
  ·obtain ⟨c, e, f, hc⟩ := hx
   obtain ⟨c', h1, _, _⟩ := h.block c e f hc
   simp only [World.frozen?, hb, h1, hc]
  ·exact World.frozen?_of_block (w := w) (by rw [hb]; exact h.rest fun c e f hc => hx ⟨c, e, f, hc⟩)
 ·exact World.frozen?_of_block (w := w) (h.other _ hb)
theorem Frame0.alloc {fr : Fr} {w : World} (h : Frame0 fr w) (o : Obj) (hp : ∀ p ∈ fr.par, p.1 < fr.w0.heap.size) : Frame0 fr (w.alloc o) := by
 refine ⟨h.os, h.tape, h.output, by simp; have := h.size; omega, fun b hb hn => ?_, fun p hpm => ?_, fun x hx => ?_, h.gpar⟩
 ·rw [Below.heap_alloc _ _ _ (Nat.lt_of_lt_of_le hb h.size)]; exact h.block b hb hn
 ·obtain ⟨o, o', h1, h2, h3⟩ := h.part p hpm
  exact ⟨o, o', h1, by rw [Below.heap_alloc _ _ _ (Nat.lt_of_lt_of_le (hp p hpm) h.size)]; exact h2, h3⟩
 ·obtain ⟨v, h1, h2⟩ := h.glob x hx
  exact ⟨v, (Below.heap_alloc _ _ _ (Nat.lt_of_lt_of_le (h.gpar x hx).1 h.size)).trans h1, h2⟩
theorem Frame0.drew {fr : Fr} {w : World} (h : Frame0 fr w) : Frame0 fr w.drew := ⟨h.os, h.tape, h.output, h.size, h.block, h.part, h.glob, h.gpar⟩
theorem Frame0.touch {fr : Fr} {w w' : World} {b lo n : Nat} (h : Frame0 fr w) (ht : Touch w w' b lo n) (hb : fr.w0.heap.size ≤ b ∨ (b, lo, n) ∈ fr.par) (hu : ∀ p ∈ fr.par, p.1 = b → p = (b, lo, n)) : Frame0 fr w' := by
 refine ⟨ht.os.trans h.os, ht.tape.trans h.tape, ht.output.trans h.output, by rw [ht.size]; exact h.size, fun k hk hn => ?_, fun p hpm => ?_, fun x hx => ?_, h.gpar⟩
 ·have : k ≠ b := by
   rintro rfl
   rcases hb with hb | hb
   ·omega
   ·exact hn _ hb rfl
  rw [ht.other k this]; exact h.block k hk hn
 ·obtain ⟨o, o', h1, h2, h3⟩ := h.part p hpm
  by_cases hpb : p.1 = b
  ·have := hu p hpm hpb
   subst this
   rcases h3 with ⟨c, c', e, f, rfl, rfl, h3, h4⟩ | ⟨h3, h4⟩
   ·obtain ⟨c'', k1, k2, k3⟩ := ht.block c' e f h2
    exact ⟨_, _, h1, k1, .inl ⟨c, c'', e, f, rfl, rfl, k2.trans h3, fun j hj => (k3 j hj).trans (h4 j hj)⟩⟩
   ·have := ht.rest fun c e f hc => by rw [h2] at hc; exact h4 _ _ _ (Option.some.inj hc)
    exact ⟨_, _, h1, this.trans h2, .inr ⟨h3, h4⟩⟩
  ·exact ⟨o, o', h1, by rw [ht.other _ hpb]; exact h2, h3⟩
 ·obtain ⟨v, h1, h2⟩ := h.glob x hx
  have hxb : x.1 ≠ b := by
   rintro rfl
   obtain ⟨g1, g2⟩ := h.gpar x hx
   rcases hb with hb | hb
   ·omega
   ·exact g2 _ hb rfl
  exact ⟨v, (ht.other _ hxb).trans h1, h2⟩
theorem look_one {α : Type} (k n : Nat) (x : α) : look [(k, x)] n = if k = n then some x else none := by rw [look_cons]; rfl
def LMap.set (L : LMap) (k : Nat) (l : Loc) : LMap := fun n => if n = k then some l else L n
theorem R.step' {fr : Fr} {S : St} {L : LMap} {a : Act} {w w' : World} (h : R fr S L a w) (k : Nat) (ob : SObj) (l : Loc) (hF : Frame0 fr w')
  (hsz : w.heap.size ≤ w'.heap.size) (hoth : ∀ b, b < w.heap.size → (∀ l0, L k = some l0 → l0.blk ≠ some b) → w'.heap[b]? = w.heap[b]?)
  (hle : ∀ l0, L k = some l0 → l0.le l)
  (hpl : ∀ b, l.blk = some b → (∃ l0, L k = some l0 ∧ l0.blk = some b ∧ l0.range = l.range) ∨ (w.heap.size ≤ b ∧ b < w'.heap.size))
  (hki : ∀ p, l.range = some p → Kind w' l p.1)
  (hob : ∀ (_ : Ext w (fr.F L) w' (fr.F (L.set k l))) (_ : LExt L (L.set k l)), ObjAt w' (fr.F (L.set k l)) (L.set k l) ob l) : R fr (S.upd [(k, ob)]) (L.set k l) a w' ∧ Ext w (fr.F L) w' (fr.F (L.set k l)) ∧ LExt L (L.set k l) := by
 have hLk : ∀ n l0 b, L n = some l0 → l0.blk = some b → b < w.heap.size := fun n l0 b h1 h2 => by
  obtain ⟨_, h3⟩ := h.mem.place n l0 b h1 h2
  rcases h3 with h3 | ⟨p, hp, hr⟩
  ·exact h3.2
  ·have hpb : p.1 = b := by
    cases l0 with
    | box b' o' n' => simp [Loc.range, Loc.blk] at hr h2; rw [← hr]; exact h2
    | arr base n' cap sz => cases base <;> simp [Loc.range, Loc.blk] at hr h2; rw [← hr]; exact h2
    | gone => simp [Loc.blk] at h2
    | map b' => simp [Loc.range, Loc.blk] at hr h2; rw [← hr]; exact h2
    | iter b' => simp [Loc.range, Loc.blk] at hr h2; rw [← hr]; exact h2
   rw [← hpb]
   exact Nat.lt_of_lt_of_le (h.mem.parLt.1 p hp) h.mem.frame.size
 have hlex : LExt L (L.set k l) := fun n l0 hn => by
  by_cases hnk : n = k
  ·subst hnk; exact ⟨l, by simp [LMap.set], hle l0 hn⟩
  ·exact ⟨l0, by simp [LMap.set, hnk, hn], l0.le_refl⟩
 have hFF : ∀ b, fr.F (L.set k l) b → fr.F L b ∨ (w.heap.size ≤ b ∧ b < w'.heap.size) := by
  rintro b (hX | ⟨n, l0, hn, hb⟩)
  ·exact .inl (.inl hX)
  ·by_cases hnk : n = k
   ·simp [LMap.set, hnk] at hn
    subst hn
    rcases hpl b hb with ⟨l1, h1, h2, _⟩ | h1
    ·exact .inl (.inr ⟨k, l1, h1, h2⟩)
    ·exact .inr h1
   ·simp [LMap.set, hnk] at hn
    exact .inl (.inr ⟨n, l0, hn, hb⟩)
 have hext : Ext w (fr.F L) w' (fr.F (L.set k l)) := by
  intro b s hx hnF
  have hblt : b < w.heap.size := sees_lt hx
  have hsame : w'.heap[b]? = w.heap[b]? := hoth b hblt (fun l0 h0 hb => hnF (.inr ⟨k, l0, h0, hb⟩))
  refine ⟨sees_block hsame hx, fun hF' => ?_⟩
  rcases hFF b hF' with h1 | h1
  ·exact hnF h1
  ·omega
 have hcells : ∀ (n : Nat) (l0 : Loc) (b : Nat), n ≠ k → L n = some l0 → l0.blk = some b → w'.heap[b]? = w.heap[b]? := fun n l0 b hnk hn hb =>
  hoth b (hLk n l0 b hn hb) (fun l1 h1 h2 => hnk (h.mem.inj n k l0 l1 b hn h1 hb h2))
 have hCA : ∀ (cs : List PV) (b off : Nat), w'.heap[b]? = w.heap[b]? → CellsAt w (fr.F L) L cs b off → CellsAt w' (fr.F (L.set k l)) (L.set k l) cs b off := by
  intro cs b off hsame hc j c hj
  obtain ⟨x, h1, h2, h3⟩ := hc j c hj
  exact ⟨x, (World.cell?_of_block (w := w) (a := ⟨b, off + j, none⟩) hsame).trans h1, (World.frozen?_of_block (w := w) (a := ⟨b, off + j, none⟩) hsame).trans h2, h3.mono hext hlex⟩
 refine ⟨⟨⟨fun n ob' hn => ?_, fun n l0 hn => ?_, fun n n' l0 l1 b hn hn' hb hb' => ?_, fun n l0 b hn hb => ?_, fun n l0 p hn hb => ?_, h.mem.parLt, h.mem.xLt, hF, h.mem.lext.trans hlex⟩, h.nt, h.defers, fun t p hp => ?_⟩, hext, hlex⟩
 ·simp only [St.obj_upd, look_one] at hn
  by_cases hnk : k = n
  ·subst hnk
   simp at hn; subst hn
   exact ⟨l, by simp [LMap.set], hob hext hlex⟩
  ·simp [hnk] at hn
   obtain ⟨l0, h1, h2⟩ := h.mem.objs n ob' hn
   refine ⟨l0, by simp [LMap.set, Ne.symm hnk, h1], ?_⟩
   cases ob' with
   | box cs =>
    cases l0 with
    | box b o' n' => exact ⟨h2.1, hCA cs b o' (hcells n _ b (Ne.symm hnk) h1 rfl) h2.2⟩
    | _ => exact h2
   | arr sz isnil es =>
    cases l0 with
    | arr base n' cap sz' =>
     cases base with
     | none => exact h2
     | some bo =>
      obtain ⟨b, o'⟩ := bo
      obtain ⟨g1, g2, g3, g4, g5, g6, g7⟩ := h2
      have hsame := hcells n _ b (Ne.symm hnk) h1 rfl
      refine ⟨g1, g2, g3, g4, g5, hCA _ b o' hsame g6, fun j hj => ?_⟩
      obtain ⟨x, hx1, hx2⟩ := g7 j hj
      exact ⟨x, (World.cell?_of_block (w := w) (a := ⟨b, o' + j, none⟩) hsame).trans hx1, (World.frozen?_of_block (w := w) (a := ⟨b, o' + j, none⟩) hsame).trans hx2⟩
    | _ => exact h2
   | gone => cases l0 <;> exact h2
   | arrc sz isnil es cc =>
    cases l0 with
    | arr base n' cap sz' =>
     cases base with
     | none => exact h2
     | some bo =>
      obtain ⟨b, o'⟩ := bo
      obtain ⟨g0, g1, g2, g3, g4, g5, g6, g7⟩ := h2
      have hsame := hcells n _ b (Ne.symm hnk) h1 rfl
      refine ⟨g0, g1, g2, g3, g4, g5, hCA _ b o' hsame g6, fun j hj => ?_⟩
      obtain ⟨x, hx1, hx2⟩ := g7 j hj
      exact ⟨x, (World.cell?_of_block (w := w) (a := ⟨b, o' + j, none⟩) hsame).trans hx1, (World.frozen?_of_block (w := w) (a := ⟨b, o' + j, none⟩) hsame).trans hx2⟩
    | _ => exact h2
   | map ks vs =>
    cases l0 with
    | map b =>
     obtain ⟨es, clock, g1, g2, g3, g4, g5⟩ := h2
     exact ⟨es, clock, (hcells n _ b (Ne.symm hnk) h1 rfl).trans g1, g2, g3.mono hext hlex, g4, g5⟩
    | _ => exact h2
   | iter nl ks vs seen =>
    cases l0 with
    | iter b => exact ItAt.mono h2 hext (hcells n _ b (Ne.symm hnk) h1 rfl)
    | _ => exact h2
 ·simp only [St.obj_upd, look_one]
  by_cases hnk : k = n
  ·exact ⟨ob, by simp [hnk]⟩
  ·simp [LMap.set, Ne.symm hnk] at hn
   obtain ⟨ob', h1⟩ := h.mem.dom n l0 hn
   exact ⟨ob', by simp [hnk, h1]⟩
 ·have key : ∀ m lm, m ≠ k → L m = some lm → lm.blk = some b → l.blk = some b → False := by
   intro m lm hmk hm hbm hbl
   rcases hpl b hbl with ⟨l2, h1, h2, _⟩ | h1
   ·exact hmk (h.mem.inj m k lm l2 b hm h1 hbm h2)
   ·have := hLk m lm b hm hbm; omega
  by_cases h1 : n = k <;> by_cases h2 : n' = k
  ·exact h1.trans h2.symm
  ·simp [LMap.set, h1] at hn; subst hn
   simp [LMap.set, h2] at hn'
   exact (key n' l1 h2 hn' hb' hb).elim
  ·simp [LMap.set, h2] at hn'; subst hn'
   simp [LMap.set, h1] at hn
   exact (key n l0 h1 hn hb hb').elim
  ·simp [LMap.set, h1] at hn
   simp [LMap.set, h2] at hn'
   exact h.mem.inj n n' l0 l1 b hn hn' hb hb'
 ·by_cases hnk : n = k
  ·simp [LMap.set, hnk] at hn; subst hn
   rcases hpl b hb with ⟨l2, h1, h2, h3⟩ | h1
   ·obtain ⟨g1, g2⟩ := h.mem.place k l2 b h1 h2
    refine ⟨g1, ?_⟩
    rcases g2 with g2 | ⟨p, hp, hr⟩
    ·exact .inl ⟨g2.1, Nat.lt_of_lt_of_le g2.2 hsz⟩
    ·exact .inr ⟨p, hp, by rw [← h3]; exact hr⟩
   ·refine ⟨fun hX => ?_, .inl ⟨Nat.le_trans h.mem.frame.size h1.1, h1.2⟩⟩
    have := h.mem.xLt b hX
    have := h.mem.frame.size
    omega
  ·simp [LMap.set, hnk] at hn
   obtain ⟨g1, g2⟩ := h.mem.place n l0 b hn hb
   refine ⟨g1, ?_⟩
   rcases g2 with g2 | g2
   ·exact .inl ⟨g2.1, Nat.lt_of_lt_of_le g2.2 hsz⟩
   ·exact .inr g2
 ·by_cases hnk : n = k
  ·simp [LMap.set, hnk] at hn; subst hn
   exact hki p hb
  ·simp [LMap.set, hnk] at hn
   exact (h.mem.kind n l0 p hn hb).to (hcells n l0 p.1 hnk hn (blk_of_range hb)) id fun _ _ => rfl
 ·obtain ⟨x, h1, h2⟩ := h.vals t p (by simpa using hp)
  exact ⟨x, h1, h2.mono hext hlex⟩
theorem R.step {fr : Fr} {S : St} {L : LMap} {a : Act} {w w' : World} (h : R fr S L a w) (k : Nat) (ob : SObj) (l : Loc) (hF : Frame0 fr w')
  (hsz : w.heap.size ≤ w'.heap.size) (hoth : ∀ b, b < w.heap.size → (∀ l0, L k = some l0 → l0.blk ≠ some b) → w'.heap[b]? = w.heap[b]?)
  (hle : ∀ l0, L k = some l0 → l0.le l)
  (hpl : ∀ b, l.blk = some b → (∃ l0, L k = some l0 ∧ l0.blk = some b ∧ l0.range = l.range) ∨ (w.heap.size ≤ b ∧ b < w'.heap.size))
  (hki : ∀ b, l.blk = some b → ∃ c e, w'.heap[b]? = some (.cells c e (0, 0)))
  (hob : ∀ (_ : Ext w (fr.F L) w' (fr.F (L.set k l))) (_ : LExt L (L.set k l)), ObjAt w' (fr.F (L.set k l)) (L.set k l) ob l) : R fr (S.upd [(k, ob)]) (L.set k l) a w' ∧ Ext w (fr.F L) w' (fr.F (L.set k l)) ∧ LExt L (L.set k l) :=
 R.step' h k ob l hF hsz hoth hle hpl (fun p hp => by obtain ⟨c, e, h⟩ := hki p.1 (blk_of_range hp); exact .of h) hob
theorem R.drew {fr : Fr} {S : St} {L : LMap} {a : Act} {w : World} (h : R fr S L a w) : R fr S L a w.drew := by
 have hext : Ext w (fr.F L) w.drew (fr.F L) := fun b s hx hn => ⟨sees_drew hx, hn⟩
 refine ⟨⟨fun n ob hn => ?_, h.mem.dom, h.mem.inj, h.mem.place, h.mem.kind, h.mem.parLt, h.mem.xLt, h.mem.frame.drew, h.mem.lext⟩, h.nt, h.defers, fun t p hp => ?_⟩
 ·obtain ⟨l0, h1, h2⟩ := h.mem.objs n ob hn
  refine ⟨l0, h1, ?_⟩
  have hCA : ∀ (cs : List PV) (b off : Nat), CellsAt w (fr.F L) L cs b off → CellsAt w.drew (fr.F L) L cs b off := fun cs b off hc j c hj => by
   obtain ⟨x, h1, h2, h3⟩ := hc j c hj
   exact ⟨x, h1, h2, h3.mono hext (LExt.refl L)⟩
  cases ob with
  | box cs => cases l0 with
   | box b o' n' => exact ⟨h2.1, hCA _ _ _ h2.2⟩
   | _ => exact h2
  | arr sz isnil es => cases l0 with
   | arr base n' cap sz' => cases base with
    | none => exact h2
    | some bo => obtain ⟨g1, g2, g3, g4, g5, g6, g7⟩ := h2; exact ⟨g1, g2, g3, g4, g5, hCA _ _ _ g6, g7⟩
   | _ => exact h2
  | gone => cases l0 <;> exact h2
  | arrc sz isnil es cc => cases l0 with
   | arr base n' cap sz' => cases base with
    | none => exact h2
    | some bo => obtain ⟨g0, g1, g2, g3, g4, g5, g6, g7⟩ := h2; exact ⟨g0, g1, g2, g3, g4, g5, hCA _ _ _ g6, g7⟩
   | _ => exact h2
  | iter nl ks vs seen => cases l0 with
   | iter b => exact ItAt.mono h2 hext rfl
   | _ => exact h2
  | map ks vs => cases l0 with
   | map b => obtain ⟨es, clock, g1, g2, g3, g4, g5⟩ := h2; exact ⟨es, clock, g1, g2, g3.mono hext (LExt.refl L), g4, g5⟩
   | _ => exact h2
 ·obtain ⟨x, h1, h2⟩ := h.vals t p hp
  exact ⟨x, h1, h2.mono hext (LExt.refl L)⟩
end Go.Sym
namespace Go.Sym
open Go.RowKit
def rowOk : PV → Bool
 | .v (.agg _) => false
 | .v (.tuple _) => false
 | .tup _ => false
 | .opt _ _ => false
 | .dead => false
 | _ => true
def cellOk : PV → Bool
 | .agg _ => false
 | p => rowOk p
section
variable {fr : Fr} {S : St} {L : LMap} {a : Act} {w : World}
theorem R.box (hR : R fr S L a w) {o : Nat} {cs : List PV} (h : S.obj o = some (.box cs)) : ∃ b off, L o = some (.box b off cs.length) ∧ CellsAt w (fr.F L) L cs b off := by
 obtain ⟨l, h1, h2⟩ := hR.mem.objs o _ h
 cases l with
 | box b off n => obtain ⟨rfl, h3⟩ := h2; exact ⟨b, off, h1, h3⟩
 | arr => exact h2.elim
 | gone => exact h2.elim
 | map => exact h2.elim
 | iter => exact h2.elim
theorem R.arr (hR : R fr S L a w) {o sz : Nat} {isnil : Bool} {es : List PV} (h : S.obj o = some (.arr sz isnil es)) : ∃ base cap, L o = some (.arr base es.length cap sz) ∧ es.length ≤ cap ∧ isnil = base.isNone ∧ (∀ e ∈ es, e.cells.length = sz) ∧
  match base with
  | none => cap = 0
  | some (b, off) => CellsAt w (fr.F L) L (cellsOf es) b off ∧ ∀ j, j < cap * sz → ∃ x, w.cell? ⟨b, off + j, none⟩ = some x ∧ w.frozen? ⟨b, off + j, none⟩ = false := by
 obtain ⟨l, h1, h2⟩ := hR.mem.objs o _ h
 cases l with
 | arr base n cap sz' => obtain ⟨rfl, rfl, h3, h4, h5, h6⟩ := h2; exact ⟨base, cap, h1, h3, h4, h5, h6⟩
 | box => exact h2.elim
 | gone => exact h2.elim
 | map => exact h2.elim
 | iter => exact h2.elim
theorem Rep.ref_at {F : Nat → Prop} {o k b off n : Nat} {x : Value} (hl : L o = some (.box b off n)) (h : Rep w F L (.ref o k) x) : x = .pointer (some ⟨b, off + k, none⟩) := by
 cases h with
 | ref h1 h2 _ => rw [hl] at h1; cases h1; exact h2
theorem cellsOf_get {sz : Nat} : ∀ {es : List PV} (_ : ∀ e ∈ es, e.cells.length = sz) {i : Nat} {e : PV} (_ : es[i]? = some e) {j : Nat} {c : PV} (_ : e.cells[j]? = some c), (cellsOf es)[i * sz + j]? = some c
 | [], _, i, e, h, _, _, _ => by simp at h
 | x :: r, hs, 0, e, h, j, c, hc => by
  simp at h; subst h
  have hj : j < x.cells.length := (List.getElem?_eq_some_iff.1 hc).1
  simp only [cellsOf, List.flatMap_cons, Nat.zero_mul, Nat.zero_add]
  rw [List.getElem?_append_left hj]; exact hc
 | x :: r, hs, i + 1, e, h, j, c, hc => by
  have ih := cellsOf_get (es := r) (fun e he => hs e (by simp [he])) (i := i) (by simpa using h) hc
  have hx := hs x (by simp)
  simp only [cellsOf, List.flatMap_cons]
  rw [List.getElem?_append_right (by rw [hx, Nat.succ_mul]; omega), hx, show (i + 1) * sz + j - sz = i * sz + j by rw [Nat.succ_mul]; omega]
  exact ih
theorem cellsOf_length {sz : Nat} : ∀ {es : List PV}, (∀ e ∈ es, e.cells.length = sz) → (cellsOf es).length = es.length * sz
 | [], _ => by simp [cellsOf]
 | x :: r, hs => by
  have ih := cellsOf_length (es := r) (fun e he => hs e (by simp [he]))
  have hx := hs x (by simp)
  simp only [cellsOf, List.flatMap_cons, List.length_append, List.length_cons] at ih ⊢
  rw [ih, hx, Nat.succ_mul]; omega
theorem repL_length {F : Nat → Prop} {L : LMap} : ∀ {cs : List PV} {vs : List Value}, RepL w F L cs vs → cs.length = vs.length
 | [], _, h => by cases h; rfl
 | c :: cs, _, h => by cases h with | cons h1 h2 => simp [repL_length h2]
theorem repL_get {F : Nat → Prop} {L : LMap} : ∀ {cs : List PV} {vs : List Value}, RepL w F L cs vs → ∀ (j : Nat) (c : PV), cs[j]? = some c → ∃ x, vs[j]? = some x ∧ Rep w F L c x
 | [], _, _, j, c, hc => by simp at hc
 | c :: cs, _, h, j, d, hc => by
  cases h with
  | cons h1 h2 =>
   cases j with
   | zero => simp at hc; subst hc; exact ⟨_, rfl, h1⟩
   | succ j => simpa using repL_get h2 j d (by simpa using hc)
theorem repL_of_get {F : Nat → Prop} {L : LMap} : ∀ {cs : List PV} {vs : List Value}, cs.length = vs.length → (∀ (j : Nat) (c : PV), cs[j]? = some c → ∃ x, vs[j]? = some x ∧ Rep w F L c x) → RepL w F L cs vs
 | [], [], _, _ => .nil L
 | [], _ :: _, h, _ => by simp at h
 | _ :: _, [], h, _ => by simp at h
 | c :: cs, x :: vs, h, hg => by
  obtain ⟨y, hy, hr⟩ := hg 0 c rfl
  simp at hy; subst hy
  exact .cons hr (repL_of_get (by simpa using h) fun j d hd => by simpa using hg (j + 1) d (by simpa using hd))
theorem rep_cells {F : Nat → Prop} {L : LMap} {p : PV} {x : Value} (h : Rep w F L p x) (ho : rowOk p = true) : RepL w F L p.cells x.cells.toList := by
 cases h with
 | agg h => exact h
 | v => cases x <;> first | (simp [rowOk] at ho; done) | (exact .cons (.v _ _) (.nil _))
 | tup => simp [rowOk] at ho
 | opt => simp [rowOk] at ho
 | dead => simp [rowOk] at ho
 | sl h1 h2 h3 => exact .cons (.sl h1 h2 h3) (.nil _)
 | slNil => exact .cons (.slNil _ _) (.nil _)
 | slE => exact .cons (.slE _ _ _) (.nil _)
 | rp h1 => exact .cons (.rp h1) (.nil _)
 | ref h1 h2 h3 => obtain ⟨b, rfl⟩ := h3; exact .cons (.ref h1 h2 ⟨b, rfl⟩) (.nil _)
 | eref h1 h2 h3 => obtain ⟨b, rfl⟩ := h3; exact .cons (.eref h1 h2 ⟨b, rfl⟩) (.nil _)
 | osl h1 h2 h3 => obtain ⟨b, m, c, rfl⟩ := h3; exact .cons (.osl h1 h2 ⟨b, m, c, rfl⟩) (.nil _)
 | clo h1 h2 => exact .cons (.clo h1 h2) (.nil _)
 | ifc h1 => exact .cons (.ifc h1) (.nil _)
 | mp h1 h2 h3 h4 h5 => exact .cons (.mp h1 h2 h3 h4 h5) (.nil _)
 | it h1 h2 h3 h4 h5 h6 => exact .cons (.it h1 h2 h3 h4 h5 h6) (.nil _)
 | slf h1 h2 => exact .cons (.slf h1 h2) (.nil _)
 | mpNil => exact .cons (.mpNil _) (.nil _)
 | mref h1 h2 h3 => obtain ⟨b, rfl⟩ := h3; exact .cons (.mref h1 h2 ⟨b, rfl⟩) (.nil _)
theorem rep_one {F : Nat → Prop} {L : LMap} {p : PV} {x : Value} (h : Rep w F L p x) (ho : cellOk p = true) : x.oneCell' = true := by
 cases h with
 | agg h => simp [cellOk] at ho
 | v => cases x <;> first | (simp [cellOk, rowOk] at ho; done) | rfl
 | tup => simp [cellOk, rowOk] at ho
 | opt => simp [cellOk, rowOk] at ho
 | dead => simp [cellOk, rowOk] at ho
 | ref h1 h2 h3 => obtain ⟨b, rfl⟩ := h3; rfl
 | eref h1 h2 h3 => obtain ⟨b, rfl⟩ := h3; rfl
 | osl h1 h2 h3 => obtain ⟨b, m, c, rfl⟩ := h3; rfl
 | mref h1 h2 h3 => obtain ⟨b, rfl⟩ := h3; rfl
 | _ => rfl
end
end Go.Sym
