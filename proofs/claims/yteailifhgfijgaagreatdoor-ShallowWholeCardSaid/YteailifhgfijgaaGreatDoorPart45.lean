/- A part of the proof: SymY, VzS. -/
import Derived.ProofKit
import Derived.SizedLaws
import Derived.Deep.Slices
import Derived.Test.YteailifhgfijgaaGreatDoorRows
import Derived.Lay
import Derived.LaidMore
import Derived.Stop.Joined
import Derived.MakeChecks
import Derived.Lib.LaidU8
import Derived.Test.YteailifhgfijgaaGreatDoorPart44
set_option linter.unusedVariables false
set_option linter.unusedSimpArgs false
namespace Go.Sym
open Go.RowKit Go.WideShapes Go.ChangeShapes
def Opens (P : Program) (t : TypeId) {α : Type} (cells : α → List PV) (good : α → Prop) : Prop :=
 ∀ {H : Type} (enc : TypeId × Value → H) (w : World) (fuel : Nat) (cs : List Value) (x : DataW H × List MemPlace),
  DataW.trod enc P w 0 (fun _ => true) true fuel t cs = some x → (∀ n ∈ x.1.weights P t, n ≤ reachBytes) → ∃ a, good a ∧ RepL w (fun _ => False) noL (cells a) cs
section
variable {P : Program} {t e : TypeId}
theorem Opens.bool (h : P.underlying t = some .bool) : Opens P t (fun b : Bool => [bV b]) (fun _ => True) := fun enc w fuel cs x hx _ => by
 obtain ⟨b, rfl, rfl⟩ := DataW.trod_bool h hx
 exact ⟨b, trivial, .cons (.v _ _) (.nil _)⟩
theorem Opens.int {k : IntKind} (h : P.underlying t = some (.int k)) : Opens P t (fun n : Int => [.v (.int k n)]) (fun n => k.min ≤ n ∧ n ≤ k.max) := fun enc w fuel cs x hx _ => by
 obtain ⟨n, rfl, rfl, hw⟩ := DataW.trod_int h hx
 simp only [Lit.wf, Bool.and_eq_true, decide_eq_true_eq] at hw
 exact ⟨n, hw, .cons (.v _ _) (.nil _)⟩
theorem Opens.str (h : P.underlying t = some .string) : Opens P t (fun l : List UInt8 => [sV l]) (fun l => l.length ≤ reachBytes) := fun enc w fuel cs x hx hw => by
 obtain ⟨s, rfl, rfl, _⟩ := DataW.trod_string h hx
 exact ⟨s.data.toList, hw _ (by simp [DataW.weights]), .cons (.v _ _) (.nil _)⟩
theorem Opens.iso {α β : Type} {c1 : α → List PV} {c2 : β → List PV} {g1 : α → Prop} {g2 : β → Prop} (h : Opens P t c1 g1) (f : α → β) (hf : ∀ a, g1 a → g2 (f a) ∧ c1 a = c2 (f a)) : Opens P t c2 g2 := fun enc w fuel cs x hx hw => by
 obtain ⟨a, ha, hr⟩ := h enc w fuel cs x hx hw
 obtain ⟨h1, h2⟩ := hf a ha
 exact ⟨f a, h1, h2 ▸ hr⟩
theorem list_choice {α : Type} (p : Nat → α → Prop) : ∀ n : Nat, (∀ i, i < n → ∃ a, p i a) → ∃ l : List α, l.length = n ∧ ∀ (i : Nat) a, l[i]? = some a → p i a
 | 0, _ => ⟨[], rfl, fun i a h => by simp at h⟩
 | n + 1, h => by
  obtain ⟨l, h1, h2⟩ := list_choice p n (fun i hi => h i (by omega))
  obtain ⟨a, ha⟩ := h n (by omega)
  refine ⟨l ++ [a], by simp [h1], fun i b hb => ?_⟩
  rw [List.getElem?_append] at hb
  split at hb
  ·exact h2 i b hb
  ·have : i = n := by
    rcases Nat.lt_or_ge (i - l.length) 1 with h' | h'
    ·omega
    ·rw [List.getElem?_eq_none (by simpa using h')] at hb; simp at hb
   subst this
   rw [h1, Nat.sub_self] at hb
   simp at hb; subst hb; exact ha
theorem row_of {w : World} {b : Nat} : ∀ {ps : List PV} {cs : List Value} {off : Nat}, RepL w (fun _ => False) noL ps cs → (∀ i c, cs[i]? = some c → w.cell? ⟨b, off + i, none⟩ = some c) → Row w (fun _ => False) ps b off
 | [], _, off, h, _ => .nil b off
 | p :: ps, _, off, h, hc => by
  cases h with
  | cons h1 h2 =>
   refine .cons (hc 0 _ rfl) (fun h => h) h1 (row_of h2 fun i c hi => ?_)
   rw [show off + 1 + i = off + (i + 1) by omega]
   exact hc (i + 1) c (by simpa using hi)
theorem rows_ofY {w : World} {b sz : Nat} {α : Type} (f : α → PV) : ∀ (l : List α) (off : Nat), (∀ (i : Nat) a, l[i]? = some a → (f a).cells.length = sz ∧ Row w (fun _ => False) (f a).cells b (off + i * sz)) → Rows w (fun _ => False) sz (l.map f) b off
 | [], off, _ => .nil sz b off
 | a :: l, off, h => by
  obtain ⟨h1, h2⟩ := h 0 a rfl
  refine .cons h1 (by simpa using h2) (rows_ofY f l (off + sz) fun i c hi => ?_)
  obtain ⟨k1, k2⟩ := h (i + 1) c (by simpa using hi)
  refine ⟨k1, ?_⟩
  rw [show off + sz + i * sz = off + (i + 1) * sz by rw [Nat.succ_mul]; omega]
  exact k2
theorem weightsAll_mem {H : Type} {n : Nat} : ∀ {ds : List (DataW H)} {d : DataW H}, d ∈ ds → n ∈ d.weights P e → n ∈ DataW.weightsAll P e ds
 | [], d, h, _ => by simp at h
 | c :: ds, d, h, hn => by
  simp only [DataW.weightsAll, List.mem_append]
  rcases List.mem_cons.1 h with rfl | h
  ·exact .inl hn
  ·exact .inr (weightsAll_mem h hn)
theorem Opens.slice {α : Type} {cellsE : α → List PV} {goodE : α → Prop} {sz : Nat} (h : P.underlying t = some (.slice e)) (hs : P.cellsOf e = sz) (h0 : 0 < sz) (he : Opens P e cellsE goodE) (f : α → PV) (hf : ∀ a, (f a).cells = cellsE a) :
  Opens P t (fun x : Bool × List α => [.sl x.1 sz (x.2.map f)]) (fun x => (x.1 = true → x.2 = []) ∧ x.2.length * P.bytesOf e ≤ reachBytes ∧ ∀ a ∈ x.2, goodE a) := fun {H} enc w fuel cs x hx hw => by
 rcases Deep.open_slice h hx with ⟨rfl, rfl⟩ | ⟨a, len, cap, m, n, D, Pl, rfl, _, hlc, _, hm, rfl, hel⟩
 ·exact ⟨(true, []), ⟨fun _ => rfl, by simp, by simp⟩, .cons (.slNil _ _) (.nil _)⟩
 ·simp only [if_true] at hm
  subst hm
  have hbytes : len * P.bytesOf e ≤ reachBytes := by
   have := hw ((((List.range len).map D).length + ((List.range (m - len)).map fun j => D (len + j)).length) * P.bytesOf e) (by simp [DataW.weights, h])
   refine Nat.le_trans (Nat.mul_le_mul_right _ ?_) this
   simp
  have key : ∀ i, i < len → ∃ y : α, goodE y ∧ ∃ cs', w.cells? 0 (a.add (i * sz)) sz = some cs' ∧ RepL w (fun _ => False) noL (cellsE y) cs' := fun i hi => by
   obtain ⟨cs', k1, k2⟩ := hel i (by omega)
   obtain ⟨y, hy, hr⟩ := he enc w n cs' _ k2 (fun q hq => hw q (by
    simp only [DataW.weights, h, List.mem_cons, List.mem_append]
    exact .inr (.inl (weightsAll_mem (d := D i) (List.mem_map.2 ⟨i, by simpa using hi, rfl⟩) hq))))
   exact ⟨y, hy, cs', by rw [← hs]; exact k1, hr⟩
  obtain ⟨l, hl, hp⟩ := list_choice (fun i y => goodE y ∧ ∃ cs', w.cells? 0 (a.add (i * sz)) sz = some cs' ∧ RepL w (fun _ => False) noL (cellsE y) cs') len key
  refine ⟨(false, l), ⟨fun h => by simp at h, by simp only [hl]; exact hbytes, fun y hy => ?_⟩, .cons ?_ (.nil _)⟩
  ·obtain ⟨i, hi, rfl⟩ := List.getElem_of_mem hy
   exact (hp i _ (List.getElem?_eq_getElem hi)).1
  ·obtain ⟨b, off, spot⟩ := a
   by_cases hcap : m = 0
   ·have hl0 : len = 0 := by omega
    have : l = [] := List.eq_nil_of_length_eq_zero (by omega)
    subst this
    subst hcap
    subst hl0
    exact .slE _ _ _
   ·obtain ⟨cs', k1, _⟩ := hel 0 (by omega)
    rw [hs] at k1
    obtain ⟨_, g1, g2⟩ := World.cells?_some k1
    have g3 := g2 0 h0
    obtain ⟨c0, hc0⟩ : ∃ c0, cs'[0]? = some c0 := ⟨cs'[0], List.getElem?_eq_getElem (by omega)⟩
    rw [hc0] at g3
    have hspot : spot = none := by
     have := World.cell?_spot g3
     simpa [Addr.add] using this
    subst hspot
    refine .sl (by simp [hl]) hlc (rows_ofY f l off fun i y hy => ?_)
    obtain ⟨_, cs2, q1, q2⟩ := hp i y hy
    obtain ⟨_, q3, q4⟩ := World.cells?_some q1
    rw [hf y]
    refine ⟨by rw [repL_length q2, q3], row_of q2 fun j c hj => ?_⟩
    have hjs : j < sz := by
     rcases Nat.lt_or_ge j sz with h' | h'
     ·exact h'
     ·rw [List.getElem?_eq_none (by omega)] at hj; simp at hj
    have := q4 j hjs
    rw [Addr.add_lit, Addr.add_lit] at this
    rw [this, hj]
def OpensF (P : Program) (N : Nat) (fs : List Field) (k : Nat) {α : Type} (cells : α → List PV) (good : α → Prop) : Prop :=
 ∀ {H : Type} (enc : TypeId × Value → H) (w : World) (fuel : Nat) (cs : List Value) (xs : List (DataW H × List MemPlace)), cs.length = N → xs.length = fs.length →
  (∀ (i : Nat) (f : Field), fs[i]? = some f → DataW.trod enc P w 0 (fun _ => true) true fuel f.type ((cs.drop f.offset).take (P.cellsOf f.type)) = xs[i]?) →
  (∀ n ∈ DataW.weightsEach P (fs.map (·.type)) (xs.map (·.1)), n ≤ reachBytes) → ∃ a, good a ∧ RepL w (fun _ => False) noL (cells a) (cs.drop k)
theorem OpensF.nil {N k : Nat} (h : N ≤ k) : OpensF P N [] k (fun _ : Unit => []) (fun _ => True) := fun enc w fuel cs xs hc _ _ _ => by
 refine ⟨(), trivial, ?_⟩
 rw [List.drop_eq_nil_of_le (by omega)]
 exact .nil _
theorem repL_app {w : World} {F : Nat → Prop} {L : LMap} : ∀ {ps qs : List PV} {xs ys : List Value}, RepL w F L ps xs → RepL w F L qs ys → RepL w F L (ps ++ qs) (xs ++ ys)
 | [], _, _, _, h, k => by cases h; exact k
 | _ :: _, _, _, _, h, k => by cases h with | cons h1 h2 => exact .cons h1 (repL_app h2 k)
theorem OpensF.cons {N k s : Nat} {f : Field} {fs : List Field} {α β : Type} {c1 : α → List PV} {c2 : β → List PV} {g1 : α → Prop} {g2 : β → Prop} (ho : f.offset = k) (hs : P.cellsOf f.type = s) (h1 : Opens P f.type c1 g1) (h2 : OpensF P N fs (k + s) c2 g2) :
  OpensF P N (f :: fs) k (fun x : α × β => c1 x.1 ++ c2 x.2) (fun x => g1 x.1 ∧ g2 x.2) := fun {H} enc w fuel cs xs hc hl hx hw => by
 match xs, hl with
 | x :: xs, hl =>
  have e0 := hx 0 f rfl
  simp only [List.getElem?_cons_zero] at e0
  obtain ⟨a, ha, hra⟩ := h1 enc w fuel _ x e0 (fun n hn => hw n (by simp only [List.map_cons, DataW.weightsEach, List.mem_append]; exact .inl hn))
  obtain ⟨b, hb, hrb⟩ := h2 enc w fuel cs xs hc (by simpa using hl) (fun i g hi => by simpa using hx (i + 1) g (by simpa using hi)) (fun n hn => hw n (by simp only [List.map_cons, DataW.weightsEach, List.mem_append]; exact .inr hn))
  refine ⟨(a, b), ⟨ha, hb⟩, ?_⟩
  have := repL_app hra hrb
  rw [ho, hs, ← List.drop_drop, List.take_append_drop] at this
  exact this
theorem Opens.struct {fs : List Field} {α : Type} {cells : α → List PV} {good : α → Prop} (h : P.underlying t = some (.struct fs.toArray)) (hf : OpensF P (P.cellsOf t) fs 0 cells good) : Opens P t cells good := fun {H} enc w fuel cs x hx hw => by
 obtain ⟨xs, n, rfl, rfl, hl, hlen, hget⟩ := DataW.trod_struct h hx
 obtain ⟨a, ha, hr⟩ := hf enc w n cs xs hl (by simpa using hlen) (fun i f hi => hget i f (by simpa using hi)) (fun n hn => hw n (by simpa [DataW.weights, h] using hn))
 exact ⟨a, ha, by simpa using hr⟩
def OpensA (P : Program) (t : TypeId) {α : Type} (pv : α → PV) (good : α → Prop) : Prop :=
 ∀ {H : Type} (enc : TypeId × Value → H) (w : World) (base : Nat) (v : Value) (d : DataW H) (ps : List MemPlace), Value.okWide P w .any base t v → DataW.Trod enc P w 0 (fun _ => true) true t v d ps → (∀ n ∈ d.weights P t, n ≤ reachBytes) →
  ∃ a, good a ∧ Rep w (fun _ => False) noL (pv a) v
theorem OpensA.struct {α : Type} {cells : α → List PV} {good : α → Prop} {fs : Array Field} (hu : P.underlying t = some (.struct fs)) (h : Opens P t cells good) : OpensA P t (fun a => .agg (cells a)) good := fun {H} enc w base v d ps hv hd hw => by
 unfold Value.okWide at hv
 rw [hu] at hv
 obtain ⟨cs, rfl, _⟩ := hv
 obtain ⟨fuel, hx⟩ := hd
 obtain ⟨a, ha, hr⟩ := h enc w fuel _ _ hx hw
 exact ⟨a, ha, .agg hr⟩
theorem no_agg {w : World} {r : Reach} {base : Nat} {cs : Array Value} (h : Cell.okWide P w r base t (.agg cs)) : False := by
 unfold Cell.okWide at h
 split at h <;> simp_all [Cell.ok]
theorem OpensA.one {α : Type} {p : α → PV} {good : α → Prop} {td : TypeDesc} (hu : P.underlying t = some td) (hn : isAggD td = false) (h : Opens P t (fun a => [p a]) good) : OpensA P t p good := fun {H} enc w base v d ps hv hd hw => by
 have hv' : Cell.okWide P w .any base t v := by
  unfold Value.okWide at hv
  rw [hu] at hv
  cases td <;> simp [isAggD] at hn <;> exact hv
 obtain ⟨fuel, hx⟩ := hd
 obtain ⟨a, ha, hr⟩ := h enc w fuel _ _ hx hw
 refine ⟨a, ha, ?_⟩
 have hc : v.cells.toList = [v] := by
  cases v <;> first | rfl | exact (no_agg hv').elim
 rw [hc] at hr
 cases hr with
 | cons h1 _ => exact h1
def OpensL (P : Program) (ts : List TypeId) {α : Type} (pvs : α → List PV) (good : α → Prop) : Prop :=
 ∀ {H : Type} (enc : TypeId × Value → H) (w : World) (base : Nat) (vs : List Value) (ds : List (DataW H)) (ps : List MemPlace), (∀ (j : Nat) t v, ts[j]? = some t → vs[j]? = some v → Value.okWide P w .any base t v) →
  DataW.TrodAll enc P w 0 (fun _ => true) true ts vs ds ps → (∀ n ∈ DataW.weightsEach P ts ds, n ≤ reachBytes) → ∃ a, good a ∧ RepL w (fun _ => False) noL (pvs a) vs
theorem OpensL.nil : OpensL P [] (fun _ : Unit => []) (fun _ => True) := fun enc w base vs ds ps _ h _ => by
 obtain ⟨rfl, rfl, rfl⟩ := trodAll_nil h
 exact ⟨(), trivial, .nil _⟩
theorem OpensL.cons {ts : List TypeId} {α β : Type} {p : α → PV} {ps : β → List PV} {g1 : α → Prop} {g2 : β → Prop} (h1 : OpensA P t p g1) (h2 : OpensL P ts ps g2) : OpensL P (t :: ts) (fun x : α × β => p x.1 :: ps x.2) (fun x => g1 x.1 ∧ g2 x.2) := fun {H} enc w base vs ds qs hv h hw => by
 obtain ⟨v, vs1, d, ds1, a, b, rfl, rfl, rfl, k1, k2⟩ := trodAll_cons h
 obtain ⟨x, hx, hrx⟩ := h1 enc w base v d a (hv 0 t v rfl rfl) k1 (fun n hn => hw n (by simp only [DataW.weightsEach, List.mem_append]; exact .inl hn))
 obtain ⟨y, hy, hry⟩ := h2 enc w base vs1 ds1 b (fun j u z hu hz => hv (j + 1) u z (by simpa using hu) (by simpa using hz)) k2 (fun n hn => hw n (by simp only [DataW.weightsEach, List.mem_append]; exact .inr hn))
 exact ⟨(x, y), ⟨hx, hy⟩, .cons hrx hry⟩
end
section
variable {H : Type} {enc : TypeId × Value → H} {P : Program}
theorem post_of_below {f : Func} {s : ChangeSpec} {apart fresh handsOn again : Bool} {W W' : World} {args : Array Value} {v : Value} {ds gs : List (DataW H)} {before pa pv : List MemPlace}
  (hW : DataW.Whole enc P f.params.toList s.vars apart W args.toList ds gs before)
  (hres : ∀ (b : Nat) (sp : Nat → Bool) (hd : Bool), DataW.TrodAll enc P W' b sp hd f.resultTypes.toList (v.resultList f.resultTypes.size) (s.fn H (ds ++ gs)).results [])
  (hargs : ∀ sp : Nat → Bool, (∀ p ∈ before, sp p.block = true) → DataW.TrodAll enc P W' 0 sp true f.params.toList args.toList (s.fn H (ds ++ gs)).args pa)
  (hvars : ∀ sp : Nat → Bool, (∀ p ∈ before, sp p.block = true) → DataW.TrodVars enc P W' sp s.vars (s.fn H (ds ++ gs)).vars pv)
  (hps : before = pa ++ pv) (hb : Below W.heap.size W W')
  (hok : ∀ (j : Nat) (t : TypeId) (r : Value), f.resultTypes[j]? = some t → (v.resultList f.resultTypes.size)[j]? = some r → Value.okWide P W' .any 0 t r) :
  s.post enc P f apart fresh handsOn again W args v W' := by
 have hlt : ∀ p ∈ before, p.block < W.heap.size := fun p hp => hW.lt p hp
 have hold : ∀ p ∈ before, (fun b => decide (b < W.heap.size)) p.block = true := fun p hp => by simpa using hlt p hp
 refine ⟨ds, gs, before, [], pa, pv, hW, hres _ _ _, hargs _ hold, hvars _ hold, World.keptBut_mono (fun p hp => ⟨hp, ?_⟩) (hb.frame (· ∈ before)), fun _ => ?_⟩
 ·rw [hps, List.mem_append] at hp
  exact Or.inr hp
 ·obtain ⟨_, _, _, _, _, hz, hn⟩ := hW
  refine ⟨hok, _, _, ([] ++ pa) ++ pv, ⟨[] ++ pa, pv, trodAll_append (hargs _ (fun _ _ => rfl)) (hres _ _ _), hvars _ (fun _ _ => rfl), rfl, ?_, ?_⟩, ?_⟩
  ·intro b off hp
   have hin : MemPlace.cell b off ∈ before := by rw [hps]; simpa using hp
   rw [hb.frozen (hlt _ hin)]
   exact hz b off hin
  ·intro ha
   have := hn ha
   rw [hps] at this
   simpa using this
  ·intro p hp _
   rw [hps]
   simpa using hp
theorem trodAll_stays (hl : laidOutB P = true) {W W' : World} (hb : Below W.heap.size W W') {sp : Nat → Bool} : ∀ {ts : List TypeId} {vs : List Value} {ds : List (DataW H)} {ps : List MemPlace}, ts.all (fun t => P.readableRec t && decide (t < P.types.size)) = true →
  (∀ p ∈ ps, p.block < W.heap.size) → (∀ p ∈ ps, sp p.block = true) → DataW.TrodAll enc P W 0 (fun _ => true) true ts vs ds ps → DataW.TrodAll enc P W' 0 sp true ts vs ds ps
 | [], _, _, _, _, _, _, h => by
  obtain ⟨rfl, rfl, rfl⟩ := trodAll_nil h
  exact rfl
 | t :: ts, _, _, _, hr, hlt, hs, h => by
  simp only [List.all_cons, Bool.and_eq_true, decide_eq_true_eq] at hr
  obtain ⟨v, vs1, d, ds1, a, b, rfl, rfl, rfl, k1, k2⟩ := trodAll_cons h
  exact ⟨a, b, WideElems.Trod_stays hl hr.1.1 hr.1.2 k1 (fun x hx => hb.same (hlt x (by simp [hx]))) (fun x hx => hs x (by simp [hx])),
   trodAll_stays hl hb hr.2 (fun p hp => hlt p (by simp [hp])) (fun p hp => hs p (by simp [hp])) k2, rfl⟩
structure IsLaw (s : ChangeSpec) (n : Nat) : Prop where
 vars : s.vars = []
 fn : ∀ (H : Type) (ds : List (DataW H)), ds.length = n → s.fn H ds = { results := [.lit (.bool true)], args := ds }
theorem trodAll_length {w : World} {base : Nat} {sp : Nat → Bool} {hd : Bool} : ∀ {ts : List TypeId} {vs : List Value} {ds : List (DataW H)} {ps : List MemPlace}, DataW.TrodAll enc P w base sp hd ts vs ds ps → ds.length = ts.length
 | [], _, _, _, h => by obtain ⟨rfl, rfl, rfl⟩ := trodAll_nil h; rfl
 | t :: ts, _, _, _, h => by
  obtain ⟨v, vs1, d, ds1, a, b, rfl, rfl, rfl, k1, k2⟩ := trodAll_cons h
  simp [trodAll_length k2]
theorem law_calls [Globs P] {f : FuncId} {fn : Func} {s : ChangeSpec} {α : Type} {pvs : α → List PV} {good : α → Prop} {tb : TypeId} {params : List TypeId} (hp : fn.params = params.toArray) (hres : fn.resultTypes = #[tb]) (htb : P.underlying tb = some .bool) (hs : IsLaw s params.length)
  (hl : laidOutB P = true) (hr : params.all (fun t => P.readableRec t && decide (t < P.types.size)) = true) (hop : OpensL P params pvs good) (hc : ∀ a, good a → Ctr P f (pvs a) [] (bV true) [] [])
  (W : World) (hgl : ∀ x ∈ Globs.gl P, ∃ v, W.heap[x.1]? = some v ∧ x.2 v) (base : Nat) (args : Array Value) (ds gs : List (DataW H)) (before : List MemPlace) (hval : ∀ (j : Nat) t v, fn.params[j]? = some t → args[j]? = some v → Value.okWide P W .any base t v)
  (hW : DataW.Whole enc P fn.params.toList s.vars false W args.toList ds gs before) (hz : (DataW.weightsEach P (fn.params.toList ++ s.plain.varTypes P) (ds ++ gs)).all (· ≤ reachBytes) = true) :
  Calls P f args W fun e W' => ∃ v, e = .returned v ∧ s.post enc P fn false true false false W args v W' := by
 have hW' := hW
 obtain ⟨pa, q, hA, hV, rfl, _, _⟩ := hW
 rw [hs.vars] at hV
 obtain ⟨rfl, rfl⟩ : gs = [] ∧ q = [] := by
  cases gs with
  | nil => exact ⟨rfl, hV⟩
  | cons => exact hV.elim
 have hpl : fn.params.toList = params := by rw [hp]
 rw [hpl] at hA
 have hlen := trodAll_length hA
 have hvt : s.plain.varTypes P = [] := by simp [DataSpec.varTypes, ChangeSpec.plain, hs.vars]
 rw [hpl, hvt, List.append_nil, List.append_nil] at hz
 obtain ⟨a, ha, hrep⟩ := hop enc W base args.toList ds pa (fun j t v h1 h2 => hval j t v (by rw [hp]; simpa using h1) (by simpa using h2)) hA (fun n hn => by simpa using (List.all_eq_true.1 hz) n hn)
 obtain ⟨_, hcall⟩ := hc a ha
 let fr : Fr := ⟨W, fun _ => False, [], noL, 0, Globs.gl P⟩
 have hrm : RM fr ⟨[], named PN []⟩ fr.L0 W := by
  exact ⟨fun n ob h => (by simp [St.obj, named, look] at h), fun n l h => (by cases h), fun n n' l l' b h => (by cases h), fun n l b h => (by cases h), fun n l b h => (by cases h), ⟨fun p h => (by cases h), fun p h => (by cases h)⟩, fun b h => h.elim, ⟨rfl, rfl, rfl, Nat.le_refl _, fun _ _ _ => rfl, fun p h => (by cases h), fun x hx => hgl x hx, fun x hx => ⟨(by obtain ⟨v, h, _⟩ := hgl x hx; exact (Array.getElem?_eq_some_iff.1 h).1), fun p h => (by cases h)⟩⟩, LExt.refl _⟩
 have hF : ∀ b, fr.F fr.L0 b → False := fun b h => by
  rcases h with h | ⟨o, l, h, _⟩
  ·exact h
  ·cases h
 have h0 := hcall fr W args.toList rfl rfl hrm (hrep.mono (fun b s hx _ => ⟨hx, fun h => hF b h⟩) (LExt.refl _))
 have hargs : args.toList.toArray = args := by simp
 rw [hargs] at h0
 refine h0.mono ?_
 rintro e W' ⟨v, L', rfl, _, hM, hv⟩
 obtain rfl := hv.inv_v
 have hfr := hM.frame
 have hb : Below W.heap.size W W' := ⟨hfr.os, hfr.tape, hfr.output, hfr.size, fun k hk => hfr.block k hk (fun p h => (by cases h))⟩
 refine ⟨_, rfl, post_of_below (pa := pa) (pv := []) hW' ?_ ?_ ?_ rfl hb ?_⟩
 ·intro b sp hd
  rw [List.append_nil, hs.fn H ds hlen, hres]
  exact trodAll_mk1 (shut_bool htb true)
 ·intro sp hsp
  rw [List.append_nil, hs.fn H ds hlen, hpl]
  exact trodAll_stays hl hb hr (fun p hp => hW'.lt p (by simpa using hp)) (fun p hp => hsp p (by simpa using hp)) hA
 ·intro sp _
  rw [hs.vars, List.append_nil, hs.fn H ds hlen]
  exact rfl
 ·intro j t r h1 h2
  rw [hres] at h1 h2
  match j with
  | 0 =>
   simp at h1; subst h1
   have : r = .bool true := by simpa [Value.resultList] using h2.symm
   subst this
   simp [Value.okWide, htb, Cell.okWide, Cell.ok]
  | j + 1 => simp at h1
end
end Go.Sym
namespace Go.Proofs.YteailifhgfijgaaGreatDoor
set_option maxRecDepth 100000
open Go Go.Sym Go.Graft Go.Proofs.Tryz Go.ChangeShapes Go.WideShapes Go.ChangeAt Go.RowKit
theorem own : ownKnob Tryz.prog.godebug = none := by kernel_rfl
theorem laidOut : laidOutB Tryz.prog = true := by kernel_rfl
theorem cells3 : Tryz.prog.cellsOf 3 = 1 := by kernel_rfl
theorem cells9 : Tryz.prog.cellsOf 9 = 1 := by kernel_rfl
theorem cells22 : Tryz.prog.cellsOf 22 = 1 := by kernel_rfl
theorem cells24 : Tryz.prog.cellsOf 24 = 1 := by kernel_rfl
theorem cells25 : Tryz.prog.cellsOf 25 = 1 := by kernel_rfl
theorem cells26 : Tryz.prog.cellsOf 26 = 1 := by kernel_rfl
theorem cells27 : Tryz.prog.cellsOf 27 = 1 := by kernel_rfl
theorem cells29 : Tryz.prog.cellsOf 29 = 4 := by kernel_rfl
theorem cells51 : Tryz.prog.cellsOf 51 = 3 := by kernel_rfl
theorem cells52 : Tryz.prog.cellsOf 52 = 1 := by kernel_rfl
theorem cells54 : Tryz.prog.cellsOf 54 = 2 := by kernel_rfl
theorem cells77 : Tryz.prog.cellsOf 77 = 4 := by kernel_rfl
theorem cells268 : Tryz.prog.cellsOf 268 = 3 := by kernel_rfl
theorem cells270 : Tryz.prog.cellsOf 270 = 7 := by kernel_rfl
theorem openIt : Opens Tryz.prog 51 (fun x : It => [sV x.id, iV x.kind, sV x.body]) (fun _ => True) :=
 Opens.iso (Opens.struct Tryz.underlying51 (OpensF.cons rfl cells9 (Opens.str Tryz.underlying9) (OpensF.cons rfl cells3 (Opens.int Tryz.underlying3) (OpensF.cons rfl cells9 (Opens.str Tryz.underlying9) (OpensF.nil (by rw [cells51]; decide)))))) (fun x => ⟨x.1, x.2.1, x.2.2.1⟩) fun _ _ => ⟨trivial, rfl⟩
theorem openSt : Opens Tryz.prog 24 (fun x : Bool × List It => [.sl x.1 3 (x.2.map It.pv)]) (fun _ => True) :=
 Opens.iso (Opens.struct Tryz.underlying24 (OpensF.cons rfl cells22 (Opens.slice Tryz.underlying22 cells51 (by decide) openIt It.pv (fun _ => rfl)) (OpensF.nil (by rw [cells24]; decide)))) (fun x => x.1) fun _ _ => ⟨trivial, rfl⟩
theorem openRf : Opens Tryz.prog 268 (fun x : Str × Str × Str => [sV x.1, sV x.2.1, sV x.2.2]) (fun _ => True) :=
 Opens.iso (Opens.struct Tryz.underlying268 (OpensF.cons rfl cells9 (Opens.str Tryz.underlying9) (OpensF.cons rfl cells9 (Opens.str Tryz.underlying9) (OpensF.cons rfl cells9 (Opens.str Tryz.underlying9) (OpensF.nil (by rw [cells268]; decide)))))) (fun x => ⟨x.1, x.2.1, x.2.2.1⟩) fun _ _ => ⟨trivial, rfl⟩
theorem openPer : Opens Tryz.prog 77 (fun x : Per => [sV x.name, sV x.mail, iV x.time, iV x.zone]) (fun _ => True) :=
 Opens.iso (Opens.struct Tryz.underlying77 (OpensF.cons rfl cells9 (Opens.str Tryz.underlying9) (OpensF.cons rfl cells9 (Opens.str Tryz.underlying9) (OpensF.cons rfl cells3 (Opens.int Tryz.underlying3) (OpensF.cons rfl cells3 (Opens.int Tryz.underlying3) (OpensF.nil (by rw [cells77]; decide))))))) (fun x => ⟨x.1, x.2.1, x.2.2.1, x.2.2.2.1⟩) fun _ _ => ⟨trivial, rfl⟩
theorem openLn : Opens Tryz.prog 270 (fun x : Str × Str × Per × Str => [sV x.1, sV x.2.1, sV x.2.2.1.name, sV x.2.2.1.mail, iV x.2.2.1.time, iV x.2.2.1.zone, sV x.2.2.2]) (fun _ => True) :=
 Opens.iso (Opens.struct Tryz.underlying270 (OpensF.cons rfl cells9 (Opens.str Tryz.underlying9) (OpensF.cons rfl cells9 (Opens.str Tryz.underlying9) (OpensF.cons rfl cells77 openPer (OpensF.cons rfl cells9 (Opens.str Tryz.underlying9) (OpensF.nil (by rw [cells270]; decide))))))) (fun x => ⟨x.1, x.2.1, x.2.2.1, x.2.2.2.1⟩) fun _ _ => ⟨trivial, rfl⟩
theorem openLg : Opens Tryz.prog 54 (fun x : Str × Bool × List (Str × Str × Per × Str) => [sV x.1, .sl x.2.1 7 (x.2.2.map lnV)]) (fun _ => True) :=
 Opens.iso (Opens.struct Tryz.underlying54 (OpensF.cons rfl cells9 (Opens.str Tryz.underlying9) (OpensF.cons rfl cells52 (Opens.slice Tryz.underlying52 cells270 (by decide) openLn lnV (fun _ => rfl)) (OpensF.nil (by rw [cells54]; decide))))) (fun x => ⟨x.1, x.2.1⟩) fun _ _ => ⟨trivial, rfl⟩
theorem openVw : Opens Tryz.prog 29 (fun v : Vw => v.cells) (fun _ => True) :=
 Opens.iso (Opens.struct Tryz.underlying29 (OpensF.cons rfl cells24 openSt (OpensF.cons rfl cells25 (Opens.slice Tryz.underlying25 cells268 (by decide) openRf rfV (fun _ => rfl)) (OpensF.cons rfl cells26 (Opens.slice Tryz.underlying26 cells54 (by decide) openLg lgV (fun _ => rfl)) (OpensF.cons rfl cells27 (Opens.slice Tryz.underlying27 cells9 (by decide) (Opens.str Tryz.underlying9) sV (fun _ => rfl)) (OpensF.nil (by rw [cells29]; decide))))))) (fun x => ⟨x.1.1, x.1.2, x.2.1.1, x.2.1.2, x.2.2.1.1, x.2.2.1.2, x.2.2.2.1.1, x.2.2.2.1.2⟩) fun _ _ => ⟨trivial, rfl⟩
theorem openVwA : OpensA Tryz.prog 29 (fun v : Vw => v.pv) (fun _ => True) := OpensA.struct Tryz.underlying29 openVw
theorem openTxA : OpensA Tryz.prog 27 (fun x : Bool × List Str => .sl x.1 1 (x.2.map fun x => sV x)) (fun x => x.1 = true → x.2 = []) :=
 OpensA.one Tryz.underlying27 rfl (Opens.iso (Opens.slice Tryz.underlying27 cells9 (by decide) (Opens.str Tryz.underlying9) sV (fun _ => rfl)) id fun _ h => ⟨h.1, rfl⟩)
theorem block_of_var {W : World} {n : String} {g : Nat} {cs : Array Value} (hg : Tryz.prog.globalNamed n = some g) (h : W.var? Tryz.prog n = some cs) : ∃ e f, W.heap[g]? = some (.cells cs e f) := by
 unfold World.var? at h
 rw [hg] at h
 simp only [Option.bind_some] at h
 split at h
 ·rename_i c e f hh
  cases h
  exact ⟨e, f, hh⟩
 ·cases h
theorem row_of_reads {W : World} {n : String} {g m : Nat} {t e : TypeId} {k : IntKind} {zs : List Int} (hg : Tryz.prog.globalNamed n = some g) (hty : (Tryz.prog.globals[g]?).map (·.type) = some t) (ht : Tryz.prog.underlying t = some (.array m e)) (he : Tryz.prog.underlying e = some (.int k)) (hce : Tryz.prog.cellsOf e = 1) (hct : Tryz.prog.cellsOf t = m)
  (h : Lib.VarReads Tryz.prog W n (.agg (zs.map fun z => .lit (.int k z)))) : ∃ v, W.heap[g]? = some v ∧ rowIs (zs.map fun z => .int k z) v := by
 obtain ⟨g', t', cs, fuel, p, hg', ht', hv, hd⟩ := h
 obtain rfl := Option.some.inj (hg.symm.trans hg')
 obtain rfl := Option.some.inj (hty.symm.trans ht')
 have h1 := Lib.cells_of_tab ht he hce hct hd
 obtain ⟨e, f, hh⟩ := block_of_var hg hv
 refine ⟨_, hh, e, f, ?_⟩
 rw [← h1]
theorem max_of_shape {w : World} {g : Nat} {t : TypeId} {zero : Array Value} (h : w.ShapedOpen Tryz.prog) (hg : g < Tryz.prog.globals.size)
  (h0 : ((begin Tryz.prog (fun _ _ => 0) default).world.heap[g]?).bind Obj.row? = some (zero, t)) (hz : zero.size = 1)
  (hb : Tryz.prog.buildable t = true) (hc : Tryz.prog.cellTypes Tryz.prog.depth t = some [t]) (hu : Tryz.prog.underlying t = some (.int .i64)) : ∃ v, w.heap[g]? = some v ∧ isInt v := by
 obtain ⟨cs, hh, hs, hr⟩ := h.1 g zero t hg h0
 obtain ⟨ts, hts, _, hall⟩ := hr hb
 rw [hc] at hts
 cases hts
 have h1 : 0 < cs.size := by omega
 obtain ⟨u, hu', hok⟩ := hall 0 cs[0] (by simp [h1])
 have : u = t := by simpa using hu'.symm
 subst this
 unfold Cell.ok at hok
 rw [hu] at hok
 have hc0 : cs[0]? = some cs[0] := by simp [h1]
 generalize cs[0] = v at *
 refine ⟨_, hh, ?_⟩
 cases v with
 | int k z =>
  have hk : k = .i64 := by
   cases k <;> first | rfl | simp at hok
  subst hk
  exact ⟨z, cs, _, _, rfl, hc0⟩
 | _ => simp at hok
theorem globs_of {W : World} (hL : laidMetH Tryz.prog Rows.shallowDepthsRow.laid W) (hsh : W.ShapedOpen Tryz.prog) : ∀ x ∈ Globs.gl Tryz.prog, ∃ v, W.heap[x.1]? = some v ∧ x.2 v := by
 rw [MakeChecks.laidMetH_plain _ _ _ (by kernel_rfl)] at hL
 have h2 : Lib.VarReads Tryz.prog W "internal/strconv.uint64pow10" Rows.laid_internal_strconv_uint64pow10 := Lib.laidMet.reads hL (by simp [Rows.shallowDepthsRow])
 intro x hx
 have hx : x ∈ [(gMax, isInt), (gPow, rowIs (Lib.pow10Tab.map fun z => .int .u64 z))] := hx
 simp only [List.mem_cons, List.not_mem_nil, or_false] at hx
 rcases hx with rfl | rfl
 ·exact max_of_shape hsh (of_decide_eq_true (by kernel_rfl)) (zero := #[.int .i64 0]) (t := 3) (by kernel_rfl) (by kernel_rfl) (by kernel_rfl) (by kernel_rfl) Tryz.underlying3
 ·have e : (Rows.laid_internal_strconv_uint64pow10 : DataW Unit) = .agg (Lib.pow10Tab.map fun z => .lit (.int .u64 z)) := by kernel_rfl
  rw [e] at h2
  exact row_of_reads (by kernel_rfl) (t := 224) (by kernel_rfl) Tryz.underlying224 Tryz.underlying173 (by kernel_rfl) (by kernel_rfl) h2
theorem lifted_of {C : Checked} {os : Os} {H : Type} {enc : TypeId × Value → H} {f : FuncId} {fn : Func} {s : ChangeSpec} {conds : List PathCond} {apart fresh handsOn again : Bool} {X : World → Array Value → Prop}
  (hX : ∀ (w w' : World) (args : Array Value), w.heap = w'.heap → X w args → X w' args)
  (own : ownKnob C.prog.godebug = none) (started : os.Started) (noInit : C.prog.inits.idxOf? f = none) (hfn : C.prog.funcs[f]? = some fn)
  (witness : ∃ (w : World) (tape : Tape) (i : Input), w.os = os ∧ (w.forCall tape i).Shaped C.prog ∧ i.vars = [] ∧ Input.okWide C.prog (w.forCall tape i) .any w.heap.size f i ∧
   ((s.pre enc C.prog fn conds apart (w.forCall tape i).memory i.args ∧ X (w.forCall tape i).memory i.args) ∧ sizedMet enc C.prog fn (OpenSpec.ofChange s) apart (w.forCall tape i).memory i.args) ∧ ({} : Assume).holds C.prog (lone (Frame.enter C.prog f i.args .normal) [] (w.forCall tape i)))
  (contract : ∀ (W : World) (base : Nat) (args : Array Value) (ds gs : List (DataW H)) (before : List MemPlace),
   (∀ (j : Nat) t v, fn.params[j]? = some t → args[j]? = some v → Value.okWide C.prog W .any base t v) →
   DataW.Whole enc C.prog fn.params.toList s.vars apart W args.toList ds gs before →
   (DataW.weightsEach C.prog (fn.params.toList ++ s.plain.varTypes C.prog) (ds ++ gs)).all (· ≤ reachBytes) = true → X W args → W.ShapedOpen C.prog →
   Calls C.prog f args W fun e W' => ∃ v, e = .returned v ∧ s.post enc C.prog fn apart fresh handsOn again W args v W') :
  ReturnsInHanded {} C os f .any (fun w args => (s.pre enc C.prog fn conds apart w args ∧ X w args) ∧ sizedMet enc C.prog fn (OpenSpec.ofChange s) apart w args) (s.post enc C.prog fn apart fresh handsOn again) := by
 refine returnsInHanded_of_calls own started noInit witness ?_
 intro w tape i _ hsh _ hok hpre _
 obtain ⟨_, _, _, fn', hfn', _, _, _, _, hval⟩ := hok
 have e : fn' = fn := Option.some.inj (hfn'.symm.trans hfn)
 subst e
 obtain ⟨⟨⟨ds, gs, before, hw, hc⟩, hx⟩, hz⟩ := hpre
 have hw' := DataW.Whole.of_heap (w' := w.forCall tape i) (by rfl) hw
 refine (contract (w.forCall tape i) w.heap.size i.args ds gs before hval hw' (hz.weights hw) (hX _ _ _ (by rfl) hx) hsh).mono fun e W' ⟨v, he, hp⟩ => ?_
 subst he
 exact ChangeSpec.post_blind hp
end Go.Proofs.YteailifhgfijgaaGreatDoor
