/- A part of the proof: TzS, GCalm. -/
import Derived.Test.YtbnnmnbidkpmcaaGreatDoorRows
import Derived.Lay
import Derived.LaidMore
import Derived.Stop.Joined
import Derived.MakeChecks
import Derived.Lib.LaidU8
import Derived.Test.YtbnnmnbidkpmcaaGreatDoorPart43
set_option linter.unusedVariables false
set_option linter.unusedSimpArgs false
namespace Go.Proofs.YtbnnmnbidkpmcaaGreatDoor
set_option maxRecDepth 100000
open Go Go.Sym Go.Graft Go.Proofs.Tryz Go.ChangeShapes Go.WideShapes Go.ChangeAt Go.RowKit
theorem own : ownKnob Tryz.prog.godebug = none := by kernel_rfl
theorem laidOut : laidOutB Tryz.prog = true := by kernel_rfl
theorem cells3 : Tryz.prog.cellsOf 3 = 1 := by kernel_rfl
theorem cells9 : Tryz.prog.cellsOf 9 = 1 := by kernel_rfl
theorem cells22 : Tryz.prog.cellsOf 22 = 1 := by kernel_rfl
theorem cells24 : Tryz.prog.cellsOf 24 = 1 := by kernel_rfl
theorem cells39 : Tryz.prog.cellsOf 39 = 3 := by kernel_rfl
theorem bytes39 : Tryz.prog.bytesOf 39 = 40 := by kernel_rfl
structure GoodIt (x : It) : Prop where
 id : x.id.length ≤ reachBytes
 body : x.body.length ≤ reachBytes
theorem openIt : Opens Tryz.prog 39 (fun x : It => [sV x.id, iV x.kind, sV x.body]) GoodIt := by
 refine Opens.iso (Opens.struct Tryz.underlying39 (OpensF.cons rfl cells9 (Opens.str Tryz.underlying9) (OpensF.cons rfl cells3 (Opens.int Tryz.underlying3) (OpensF.cons rfl cells9 (Opens.str Tryz.underlying9) (OpensF.nil (by rw [cells39]; decide)))))) (fun x => ⟨x.1, x.2.1, x.2.2.1⟩) ?_
 rintro ⟨a, b, c, _⟩ ⟨h1, _, h3, _⟩
 exact ⟨⟨h1, h3⟩, rfl⟩
structure GoodSt (x : Bool × List It) : Prop where
 nl : x.1 = true → x.2 = []
 size : x.2.length ≤ 140737488351232
 it : ∀ y ∈ x.2, GoodIt y
theorem openSt : Opens Tryz.prog 24 (fun x : Bool × List It => [.sl x.1 3 (x.2.map It.pv)]) GoodSt := by
 refine Opens.iso (Opens.struct Tryz.underlying24 (OpensF.cons rfl cells22 (Opens.slice Tryz.underlying22 cells39 (by decide) openIt It.pv (fun _ => rfl)) (OpensF.nil (by rw [cells24]; decide)))) (fun x => x.1) ?_
 rintro ⟨⟨nl, l⟩, _⟩ ⟨⟨h1, h2, h3⟩, _⟩
 dsimp only at h1 h2 h3
 rw [bytes39] at h2
 refine ⟨⟨h1, ?_, h3⟩, rfl⟩
 simp only [reachBytes] at h2; dsimp only; omega
theorem openStA : OpensA Tryz.prog 24 (fun x : Bool × List It => stPV x.1 x.2) GoodSt := OpensA.struct Tryz.underlying24 openSt
theorem block_of_var {W : World} {n : String} {g : Nat} {cs : Array Value} (hg : Tryz.prog.globalNamed n = some g) (h : W.var? Tryz.prog n = some cs) : ∃ e f, W.heap[g]? = some (.cells cs e f) := by
 unfold World.var? at h
 rw [hg] at h
 simp only [Option.bind_some] at h
 split at h
 ·rename_i c e f hh
  cases h
  exact ⟨e, f, hh⟩
 ·cases h
theorem row_of_reads {W : World} {n : String} {g m : Nat} {t e : TypeId} {k : IntKind} {zs : List Int} (hg : Tryz.prog.globalNamed n = some g) (hty : (Tryz.prog.globals[g]?).map (·.type) = some t) (ht : Tryz.prog.underlying t = some (.array m e)) (he : Tryz.prog.underlying e = some (.int k)) (hce : Tryz.prog.cellsOf e = 1) (hct : Tryz.prog.cellsOf t = m)
  (h : Lib.VarReads Tryz.prog W n (.agg (zs.map fun z => .lit (.int k z)))) : ∃ v, W.heap[g]? = some v ∧ rowIs (zs.map fun z => .int k z) v := by
 obtain ⟨g', t', cs, fuel, p, hg', ht', hv, hd⟩ := h
 obtain rfl := Option.some.inj (hg.symm.trans hg')
 obtain rfl := Option.some.inj (hty.symm.trans ht')
 have h1 := Lib.cells_of_tab ht he hce hct hd
 obtain ⟨e, f, hh⟩ := block_of_var hg hv
 refine ⟨_, hh, e, f, ?_⟩
 rw [← h1]
theorem max_of_shape {w : World} {g : Nat} {t : TypeId} {zero : Array Value} (h : w.ShapedOpen Tryz.prog) (hg : g < Tryz.prog.globals.size)
  (h0 : ((begin Tryz.prog (fun _ _ => 0) default).world.heap[g]?).bind Obj.row? = some (zero, t)) (hz : zero.size = 1)
  (hb : Tryz.prog.buildable t = true) (hc : Tryz.prog.cellTypes Tryz.prog.depth t = some [t]) (hu : Tryz.prog.underlying t = some (.int .i64)) : ∃ v, w.heap[g]? = some v ∧ isInt v := by
 obtain ⟨cs, hh, hs, hr⟩ := h.1 g zero t hg h0
 obtain ⟨ts, hts, _, hall⟩ := hr hb
 rw [hc] at hts
 cases hts
 have h1 : 0 < cs.size := by omega
 obtain ⟨u, hu', hok⟩ := hall 0 cs[0] (by simp [h1])
 have : u = t := by simpa using hu'.symm
 subst this
 unfold Cell.ok at hok
 rw [hu] at hok
 have hc0 : cs[0]? = some cs[0] := by simp [h1]
 generalize cs[0] = v at *
 refine ⟨_, hh, ?_⟩
 cases v with
 | int k z =>
  have hk : k = .i64 := by
   cases k <;> first | rfl | simp at hok
  subst hk
  exact ⟨z, cs, _, _, rfl, hc0⟩
 | _ => simp at hok
theorem globs_of {W : World} (hL : laidMetH Tryz.prog Rows.storeRightsRow.laid W) (hsh : W.ShapedOpen Tryz.prog) : ∀ x ∈ Globs.gl Tryz.prog, ∃ v, W.heap[x.1]? = some v ∧ x.2 v := by
 rw [MakeChecks.laidMetH_plain _ _ _ (by kernel_rfl)] at hL
 have h1 : Lib.VarReads Tryz.prog W "graftage/ident.table" Rows.laid_graftage_ident_table := Lib.laidMet.reads hL (by simp [Rows.storeRightsRow])
 have h2 : Lib.VarReads Tryz.prog W "internal/strconv.uint64pow10" Rows.laid_internal_strconv_uint64pow10 := Lib.laidMet.reads hL (by simp [Rows.storeRightsRow])
 intro x hx
 have hx : x ∈ [(gMax, isInt), (gTable, rowIs (Go.Graft.keys.map fun k => .int .u32 (k.toNat : Int))), (gPow, rowIs (Lib.pow10Tab.map fun z => .int .u64 z))] := hx
 simp only [List.mem_cons, List.not_mem_nil, or_false] at hx
 rcases hx with rfl | rfl | rfl
 ·exact max_of_shape hsh (of_decide_eq_true (by kernel_rfl)) (zero := #[.int .i64 0]) (t := 3) (by kernel_rfl) (by kernel_rfl) (by kernel_rfl) (by kernel_rfl) Tryz.underlying3
 ·have e : (Rows.laid_graftage_ident_table : DataW Unit) = .agg ((Go.Graft.keys.map fun k => (k.toNat : Int)).map fun z => .lit (.int .u32 z)) := by kernel_rfl
  have e2 : (Go.Graft.keys.map fun k => Value.int .u32 (k.toNat : Int)) = ((Go.Graft.keys.map fun k => (k.toNat : Int)).map fun z => Value.int .u32 z) := by rw [List.map_map]; rfl
  rw [e] at h1
  show ∃ v, _ ∧ rowIs _ v
  rw [e2]
  exact row_of_reads (by kernel_rfl) (t := 159) (by kernel_rfl) Tryz.underlying159 Tryz.underlying142 (by kernel_rfl) (by kernel_rfl) h1
 ·have e : (Rows.laid_internal_strconv_uint64pow10 : DataW Unit) = .agg (Lib.pow10Tab.map fun z => .lit (.int .u64 z)) := by kernel_rfl
  rw [e] at h2
  exact row_of_reads (by kernel_rfl) (t := 202) (by kernel_rfl) Tryz.underlying202 Tryz.underlying137 (by kernel_rfl) (by kernel_rfl) h2
theorem lifted_of {C : Checked} {os : Os} {H : Type} {enc : TypeId × Value → H} {f : FuncId} {fn : Func} {s : ChangeSpec} {conds : List PathCond} {apart fresh handsOn again : Bool} {X : World → Array Value → Prop}
  (hX : ∀ (w w' : World) (args : Array Value), w.heap = w'.heap → X w args → X w' args)
  (own : ownKnob C.prog.godebug = none) (started : os.Started) (noInit : C.prog.inits.idxOf? f = none) (hfn : C.prog.funcs[f]? = some fn)
  (witness : ∃ (w : World) (tape : Tape) (i : Input), w.os = os ∧ (w.forCall tape i).Shaped C.prog ∧ i.vars = [] ∧ Input.okWide C.prog (w.forCall tape i) .any w.heap.size f i ∧
   ((s.pre enc C.prog fn conds apart (w.forCall tape i).memory i.args ∧ X (w.forCall tape i).memory i.args) ∧ sizedMet enc C.prog fn (OpenSpec.ofChange s) apart (w.forCall tape i).memory i.args) ∧ ({} : Assume).holds C.prog (lone (Frame.enter C.prog f i.args .normal) [] (w.forCall tape i)))
  (contract : ∀ (W : World) (base : Nat) (args : Array Value) (ds gs : List (DataW H)) (before : List MemPlace),
   (∀ (j : Nat) t v, fn.params[j]? = some t → args[j]? = some v → Value.okWide C.prog W .any base t v) →
   DataW.Whole enc C.prog fn.params.toList s.vars apart W args.toList ds gs before →
   (DataW.weightsEach C.prog (fn.params.toList ++ s.plain.varTypes C.prog) (ds ++ gs)).all (· ≤ reachBytes) = true → X W args → W.ShapedOpen C.prog →
   Calls C.prog f args W fun e W' => ∃ v, e = .returned v ∧ s.post enc C.prog fn apart fresh handsOn again W args v W') :
  ReturnsInHanded {} C os f .any (fun w args => (s.pre enc C.prog fn conds apart w args ∧ X w args) ∧ sizedMet enc C.prog fn (OpenSpec.ofChange s) apart w args) (s.post enc C.prog fn apart fresh handsOn again) := by
 refine returnsInHanded_of_calls own started noInit witness ?_
 intro w tape i _ hsh _ hok hpre _
 obtain ⟨_, _, _, fn', hfn', _, _, _, _, hval⟩ := hok
 have e : fn' = fn := Option.some.inj (hfn'.symm.trans hfn)
 subst e
 obtain ⟨⟨⟨ds, gs, before, hw, hc⟩, hx⟩, hz⟩ := hpre
 have hw' := DataW.Whole.of_heap (w' := w.forCall tape i) (by rfl) hw
 refine (contract (w.forCall tape i) w.heap.size i.args ds gs before hval hw' (hz.weights hw) (hX _ _ _ (by rfl) hx) hsh).mono fun e W' ⟨v, he, hp⟩ => ?_
 subst he
 exact ChangeSpec.post_blind hp
end Go.Proofs.YtbnnmnbidkpmcaaGreatDoor
namespace Go.Graft
open Go.Sym
def linkAt (l : List It) (x : It) : List Nat := ((linksOf x.kind x.body).filter (placed l)).map (place l)
def LK (l : List It) : List (List Nat) := l.map (linkAt l)
theorem linkAt_lt {l : List It} {x : It} {j : Nat} (h : j ∈ linkAt l x) : j < l.length := by
 simp only [linkAt, List.mem_map, List.mem_filter] at h
 obtain ⟨y, ⟨_, h2⟩, rfl⟩ := h
 exact (placed_lt h2).1
theorem LK_len (l : List It) : (LK l).length = l.length := List.length_map _
theorem LK_get (l : List It) {i : Nat} (h : i < l.length) : (LK l)[i]! = linkAt l l[i]! := by
 rw [getElem!_pos _ i (by rw [LK_len]; exact h), getElem!_pos l i h]; simp [LK]
def endsP (L : List (List Nat)) (d : List Bool) (i : Nat) : Bool := !d[i]! && L[i]!.all fun j => d[j]!
def goR (L : List (List Nat)) : Nat → Nat → List Bool → Bool → List Bool × Bool
 | 0, _, d, m => (d, m)
 | k + 1, i, d, m => if endsP L d i = true then goR L k (i + 1) (d.set i true) true else goR L k (i + 1) d m
def cntF (d : List Bool) : Nat := d.count false
theorem cntF_set {d : List Bool} {i : Nat} (h : i < d.length) (h2 : d[i]! = false) : cntF (d.set i true) + 1 = cntF d := by
 rw [getElem!_pos d i h] at h2
 have h3 : 0 < d.count false := List.count_pos_iff.2 (h2 ▸ List.getElem_mem h)
 rw [cntF, cntF, List.count_set h, h2]
 simp
 omega
def itR (L : List (List Nat)) (n : Nat) : Nat → List Bool → List Bool
 | 0, d => d
 | f + 1, d => if (goR L n 0 d false).2 = true then itR L n f (goR L n 0 d false).1 else (goR L n 0 d false).1
theorem goR_len (L : List (List Nat)) : ∀ k i d m, (goR L k i d m).1.length = d.length
 | 0, _, _, _ => rfl
 | k + 1, i, d, m => by
  rw [goR]
  split
  ·rw [goR_len L k]; simp
  ·exact goR_len L k _ _ _
theorem goR_cnt (L : List (List Nat)) : ∀ k i d m, i + k ≤ d.length → cntF (goR L k i d m).1 ≤ cntF d ∧ ((goR L k i d m).2 = true → m = true ∨ cntF (goR L k i d m).1 < cntF d)
 | 0, _, _, _, _ => ⟨Nat.le_refl _, fun h => .inl h⟩
 | k + 1, i, d, m, h => by
  rw [goR]
  split
  ·rename_i he
   have h2 : d[i]! = false := by
    simp only [endsP, Bool.and_eq_true, Bool.not_eq_true'] at he; exact he.1
   have h3 := cntF_set (by omega) h2
   have h4 := goR_cnt L k (i + 1) (d.set i true) true (by simp; omega)
   exact ⟨by omega, fun _ => .inr (by omega)⟩
  ·exact goR_cnt L k (i + 1) d m (by omega)
def ringP (l : List It) : Bool := decide ((0 : Int) < (cntF (itR (LK l) l.length (l.length + 1) (List.replicate l.length false)) : Nat))
def RingI (l : List It) (d : List Bool) (m : Bool) : Prop := d.length = l.length ∧ ∃ f, (m = true → itR (LK l) l.length f d = itR (LK l) l.length (l.length + 1) (List.replicate l.length false) ∧ cntF d < f) ∧ (m = false → d = itR (LK l) l.length (l.length + 1) (List.replicate l.length false))
theorem RingI.start (l : List It) : RingI l (List.replicate l.length false) true := ⟨by simp, l.length + 1, fun _ => ⟨rfl, by rw [cntF]; simp⟩, fun h => by simp at h⟩
theorem RingI.next {l : List It} {d : List Bool} (h : RingI l d true) : RingI l (goR (LK l) l.length 0 d false).1 (goR (LK l) l.length 0 d false).2 ∧ 2 * cntF (goR (LK l) l.length 0 d false).1 + (if (goR (LK l) l.length 0 d false).2 = true then 1 else 0) < 2 * cntF d + 1 := by
 obtain ⟨h1, f, h2, _⟩ := h
 obtain ⟨h3, h4⟩ := h2 rfl
 have hc := goR_cnt (LK l) l.length 0 d false (by omega)
 cases f with
 | zero => omega
 | succ f =>
  rw [itR] at h3
  cases hm : (goR (LK l) l.length 0 d false).2 with
  | true =>
   have := (hc.2 hm).resolve_left (by simp)
   rw [hm, if_pos rfl] at h3
   exact ⟨⟨by rw [goR_len]; exact h1, f, fun _ => ⟨h3, by omega⟩, fun k => by simp at k⟩, by simp; omega⟩
  | false =>
   rw [hm, if_neg (by simp)] at h3
   exact ⟨⟨by rw [goR_len]; exact h1, 0, fun k => by simp at k, fun _ => h3⟩, by simp; omega⟩
theorem RingI.done {l : List It} {d : List Bool} (h : RingI l d false) : ringP l = decide ((0 : Int) < (cntF d : Nat)) := by
 obtain ⟨_, f, _, h2⟩ := h
 rw [ringP, ← h2 rfl]
theorem cntF_le (d : List Bool) : cntF d ≤ d.length := List.count_le_length
def ents (x : It) : List En := if x.kind = 2 then (treeOf x.body).2 else []
def ENT (l : List It) : List (List En) := l.map ents
theorem ENT_len (l : List It) : (ENT l).length = l.length := List.length_map _
theorem ENT_get (l : List It) {i : Nat} (h : i < l.length) : (ENT l)[i]! = ents l[i]! := by
 rw [getElem!_pos _ i (by rw [ENT_len]; exact h), getElem!_pos l i h]; simp [ENT]
def wgt (l : List It) (met : List Int) (e : En) : Int := 1 + (if (placed l e.id && decide (e.mode = 4)) = true then met[place l e.id]! else 0)
def sumM (l : List It) (met : List Int) : List En → Int
 | [] => 0
 | e :: r => wgt l met e + sumM l met r
theorem sumM_app (l : List It) (met : List Int) : ∀ a b, sumM l met (a ++ b) = sumM l met a + sumM l met b
 | [], b => by simp [sumM]
 | e :: r, b => by rw [List.cons_append, sumM, sumM, sumM_app l met r b]; omega
def okM (met : List Int) : Prop := ∀ i, i < met.length → 0 ≤ met[i]! ∧ met[i]! ≤ 20000
theorem okM.all {met : List Int} (h : okM met) (i : Nat) : 0 ≤ met[i]! ∧ met[i]! ≤ 20000 := by
 by_cases hi : i < met.length
 ·exact h i hi
 ·rw [getElem!_neg met i hi]; exact ⟨Int.le_refl _, by decide⟩
theorem wgt_pos {l : List It} {met : List Int} (h : okM met) (e : En) : 1 ≤ wgt l met e ∧ wgt l met e ≤ 20001 := by
 have := h.all (place l e.id)
 rw [wgt]; split <;> omega
theorem sumM_pos {l : List It} {met : List Int} (h : okM met) : ∀ a, 0 ≤ sumM l met a
 | [] => Int.le_refl _
 | e :: r => by have := wgt_pos (l := l) h e; have := sumM_pos (l := l) h r; rw [sumM]; omega
theorem sumM_take {l : List It} {met : List Int} (E : List En) {k : Nat} (hk : k < E.length) : sumM l met (E.take (k + 1)) = sumM l met (E.take k) + wgt l met E[k]! := by
 rw [take_snoc E k hk, sumM_app]; simp [sumM]
theorem sumM_le {l : List It} {met : List Int} (h : okM met) (E : List En) (k : Nat) : sumM l met (E.take k) ≤ sumM l met E := by
 have h1 := sumM_app l met (E.take k) (E.drop k)
 rw [List.take_append_drop] at h1
 have := sumM_pos (l := l) h (E.drop k)
 omega
def goC (l : List It) : Nat → Nat → List Int → Bool → Option (List Int × Bool)
 | 0, _, met, m => some (met, m)
 | k + 1, i, met, m => if 20000 < sumM l met (ENT l)[i]! then none else goC l k (i + 1) (met.set i (sumM l met (ENT l)[i]!)) (m || !decide (sumM l met (ENT l)[i]! = met[i]!))
def itC (l : List It) : Nat → List Int → Bool
 | 0, _ => true
 | f + 1, met => match goC l l.length 0 met false with
  | none => false
  | some (met', m) => if m = true then itC l f met' else true
def slack : List Int → Nat
 | [] => 0
 | x :: r => (20000 - x).toNat + slack r
theorem slack_set : ∀ (met : List Int) (i : Nat) (v : Int), i < met.length → met[i]! ≤ v → v ≤ 20000 → slack (met.set i v) + (v - met[i]!).toNat = slack met
 | [], i, v, h, _, _ => by simp at h
 | x :: r, 0, v, h, h1, h2 => by
  simp only [List.getElem!_cons_zero] at h1 ⊢
  rw [List.set_cons_zero, slack, slack]; omega
 | x :: r, i + 1, v, h, h1, h2 => by
  simp only [List.getElem!_cons_succ] at h1 ⊢
  have := slack_set r i v (by simpa using h) h1 h2
  rw [List.set_cons_succ, slack, slack]; omega
theorem set_bang (met : List Int) (i j : Nat) (v : Int) (h : i < met.length) : (met.set i v)[j]! = if i = j then v else met[j]! := by
 by_cases hj : j < met.length
 ·rw [getElem!_pos _ j (by simpa using hj), getElem!_pos met j hj, List.getElem_set]
 ·rw [getElem!_neg _ j (by simpa using hj), getElem!_neg met j hj, if_neg (by omega)]
def upM (l : List It) (met : List Int) : Prop := okM met ∧ met.length = l.length ∧ ∀ i, i < l.length → met[i]! ≤ sumM l met (ENT l)[i]!
theorem sumM_mono {l : List It} {met met' : List Int} (h : ∀ j : Nat, met[j]! ≤ met'[j]!) : ∀ E, sumM l met E ≤ sumM l met' E
 | [] => Int.le_refl _
 | e :: r => by
  have := sumM_mono (l := l) h r
  have := h (place l e.id)
  rw [sumM, sumM, wgt, wgt]
  split <;> omega
theorem upM.set {l : List It} {met : List Int} (h : upM l met) {i : Nat} (hi : i < l.length) (hs : sumM l met (ENT l)[i]! ≤ 20000) : upM l (met.set i (sumM l met (ENT l)[i]!)) := by
 obtain ⟨h1, h2, h3⟩ := h
 have hi2 : i < met.length := by omega
 have hle := h3 i hi
 have hmono : ∀ j : Nat, met[j]! ≤ (met.set i (sumM l met (ENT l)[i]!))[j]! := fun j => by
  rw [set_bang met i j _ hi2]
  split
  ·rename_i e; subst e; exact hle
  ·exact Int.le_refl _
 refine ⟨fun j hj => ?_, by simpa using h2, fun j hj => ?_⟩
 ·rw [set_bang met i j _ hi2]
  split
  ·exact ⟨by have := sumM_pos (l := l) h1 (ENT l)[i]!; omega, hs⟩
  ·exact h1.all j
 ·have hm := sumM_mono (l := l) hmono (ENT l)[j]!
  rw [set_bang met i j _ hi2]
  split
  ·rename_i e; subst e; exact hm
  ·have := h3 j hj; omega
theorem goC_up (l : List It) : ∀ k i met m, upM l met → i + k ≤ l.length → ∀ met' m', goC l k i met m = some (met', m') → upM l met' ∧ slack met' ≤ slack met ∧ (m' = true → m = true ∨ slack met' < slack met)
 | 0, _, met, m, h, _, met', m', he => by
  simp only [goC, Option.some.injEq, Prod.mk.injEq] at he
  obtain ⟨rfl, rfl⟩ := he
  exact ⟨h, Nat.le_refl _, fun h => .inl h⟩
 | k + 1, i, met, m, h, hik, met', m', he => by
  rw [goC] at he
  split at he
  ·simp at he
  ·rename_i hs
   have h1 := h.set (i := i) (by omega) (by omega)
   have h2 := slack_set met i (sumM l met (ENT l)[i]!) (by have := h.2.1; omega) (h.2.2 i (by omega)) (by omega)
   obtain ⟨h3, h4, h5⟩ := goC_up l k (i + 1) _ _ h1 (by omega) met' m' he
   have h6 := h.2.2 i (by omega)
   refine ⟨h3, by omega, fun hm => ?_⟩
   rcases h5 hm with h5 | h5
   ·rw [Bool.or_eq_true] at h5
    rcases h5 with h5 | h5
    ·exact .inl h5
    ·right
     rw [Bool.not_eq_true', decide_eq_false_iff_not] at h5
     omega
   ·right; omega
def calmP (l : List It) : Bool := !ringP l && itC l (l.length * 20000 + 1) (List.replicate l.length 0)
theorem slack_zero : ∀ n, slack (List.replicate n 0) = n * 20000
 | 0 => rfl
 | n + 1 => by rw [List.replicate_succ, slack, slack_zero n]; omega
theorem upM_zero (l : List It) : upM l (List.replicate l.length 0) := by
 have h0 : ∀ i : Nat, (List.replicate l.length (0 : Int))[i]! = 0 := fun i => by
  by_cases h : i < l.length
  ·rw [getElem!_pos _ i (by simpa using h)]; simp
  ·rw [getElem!_neg _ i (by simpa using h)]; rfl
 have h1 : okM (List.replicate l.length 0) := fun i _ => by rw [h0]; exact ⟨Int.le_refl _, by decide⟩
 exact ⟨h1, by simp, fun i _ => by rw [h0]; exact sumM_pos h1 _⟩
def CalmI (l : List It) (met : List Int) (m : Bool) : Prop := upM l met ∧ ∃ f, (m = true → itC l f met = itC l (l.length * 20000 + 1) (List.replicate l.length 0) ∧ slack met < f) ∧ (m = false → itC l (l.length * 20000 + 1) (List.replicate l.length 0) = true)
theorem CalmI.start (l : List It) : CalmI l (List.replicate l.length 0) true := ⟨upM_zero l, _, fun _ => ⟨rfl, by rw [slack_zero]; omega⟩, fun h => by simp at h⟩
theorem CalmI.none {l : List It} {met : List Int} (h : CalmI l met true) (he : goC l l.length 0 met false = none) : itC l (l.length * 20000 + 1) (List.replicate l.length 0) = false := by
 obtain ⟨_, f, h2, _⟩ := h
 obtain ⟨h3, h4⟩ := h2 rfl
 cases f with
 | zero => omega
 | succ f => rw [← h3, itC, he]
theorem CalmI.next {l : List It} {met met' : List Int} {m' : Bool} (h : CalmI l met true) (he : goC l l.length 0 met false = some (met', m')) : CalmI l met' m' ∧ 2 * slack met' + (if m' = true then 1 else 0) < 2 * slack met + 1 := by
 obtain ⟨h1, f, h2, _⟩ := h
 obtain ⟨h3, h4⟩ := h2 rfl
 obtain ⟨k1, k2, k3⟩ := goC_up l _ _ _ _ h1 (by omega) met' m' he
 cases f with
 | zero => omega
 | succ f =>
  rw [itC, he] at h3
  simp only [] at h3
  cases m' with
  | true =>
   have := (k3 rfl).resolve_left (by simp)
   rw [if_pos rfl] at h3
   exact ⟨⟨k1, f, fun _ => ⟨h3, by omega⟩, fun k => by simp at k⟩, by simp; omega⟩
  | false =>
   rw [if_neg (by simp)] at h3
   exact ⟨⟨k1, 0, fun k => by simp at k, fun _ => h3.symm⟩, by simp; omega⟩
theorem CalmI.done {l : List It} {met : List Int} (h : CalmI l met false) : itC l (l.length * 20000 + 1) (List.replicate l.length 0) = true := by
 obtain ⟨_, f, _, h2⟩ := h
 exact h2 rfl
def smallP (l : List It) : Bool := decide ((l.length : Int) ≤ 80) && (l.all fun x => decide ((x.body.length : Int) ≤ 4000)) && (rightSt l && calmP l)
theorem small_len {l : List It} (h : smallP l = true) : l.length ≤ 80 ∧ (∀ x ∈ l, x.body.length ≤ 4000) ∧ rightSt l = true := by
 simp only [smallP, Bool.and_eq_true, decide_eq_true_eq, List.all_eq_true] at h
 exact ⟨by omega, fun x hx => by have := h.1.2 x hx; omega, h.2.1⟩
end Go.Graft
