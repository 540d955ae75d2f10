/- A part of the proof: SymV, SymW, SymX. -/
import Derived.Test.YteailifhgfijgaaGreatDoorPart14
import Derived.Laws.BytesArg
set_option linter.unusedVariables false
set_option linter.unusedSimpArgs false
namespace Go.Sym
open Go.RowKit
section
variable {P : Program} {T : Tbl} {fr : Fr} {S S' : St} {L L' : LMap} {a : Act} {w : World} {F F' : Nat → Prop} {γ : Bool}
variable {ty : Nat} {pos : String} {aft : Array Edge} {g : Option (Nat × Bool)} {dst : Option Nat}
theorem ObjAt.mono {ob : SObj} {l : Loc} (h : ObjAt w F L ob l) (hE : Ext w F w F') (hl : LExt L L') : ObjAt w F' L' ob l := by
 cases ob with
 | box cs =>
  cases l with
  | box b off k => exact ⟨h.1, fun j c hj => by obtain ⟨x, g1, g2, g3⟩ := h.2 j c hj; exact ⟨x, g1, g2, g3.mono hE hl⟩⟩
  | arr => exact h.elim
  | gone => exact h.elim
  | map => exact h.elim
 | arr sz nl es =>
  cases l with
  | arr base n' cap sz' =>
   cases base with
   | none => exact h
   | some bo =>
    obtain ⟨k1, k2, k3, k4, k5, k6, k7⟩ := h
    exact ⟨k1, k2, k3, k4, k5, fun j c hj => by obtain ⟨x, g1, g2, g3⟩ := k6 j c hj; exact ⟨x, g1, g2, g3.mono hE hl⟩, k7⟩
  | box => exact h.elim
  | gone => exact h.elim
  | map => exact h.elim
 | arrc sz nl es cc =>
  cases l with
  | arr base n' cap sz' =>
   cases base with
   | none => exact h
   | some bo =>
    obtain ⟨k0, k1, k2, k3, k4, k5, k6, k7⟩ := h
    exact ⟨k0, k1, k2, k3, k4, k5, fun j c hj => by obtain ⟨x, g1, g2, g3⟩ := k6 j c hj; exact ⟨x, g1, g2, g3.mono hE hl⟩, k7⟩
  | box => exact h.elim
  | gone => exact h.elim
  | map => exact h.elim
 | gone => cases l <;> exact h
 | map ks vs =>
  cases l with
  | map b =>
   obtain ⟨es, clock, k1, k2, k3, k4, k5⟩ := h
   exact ⟨es, clock, k1, k2, k3.mono hE hl, k4, k5⟩
  | _ => exact h.elim
def giveL (L : LMap) (G : List Nat) : LMap := fun n => if G.contains n then some .gone else L n
def goneL (G : List Nat) : List (Nat × SObj) := G.map fun n => (n, SObj.gone)
theorem look_goneL {G : List Nat} {n : Nat} : look (goneL G) n = if G.contains n then some .gone else none := by
 induction G with
 | nil => rfl
 | cons k r ih =>
  simp only [goneL, List.map_cons] at ih ⊢
  rw [look_cons, ih]
  by_cases e : k = n
  ·subst e; simp
  ·have : ¬ n = k := fun h => e h.symm
   simp [e, this]
theorem giveL_some {G : List Nat} {n b : Nat} {l : Loc} (h : giveL L G n = some l) (hb : l.blk = some b) : L n = some l ∧ G.contains n = false := by
 simp only [giveL] at h
 split at h
 ·cases h; simp [Loc.blk] at hb
 ·rename_i hc; exact ⟨h, by simpa using hc⟩
theorem giveL_ext (L : LMap) (G : List Nat) : LExt L (giveL L G) := fun o l h => by
 simp only [giveL]
 split
 ·exact ⟨_, rfl, fun _ _ _ => trivial, fun _ _ _ _ _ => trivial, fun _ _ _ _ _ => trivial⟩
 ·exact ⟨l, h, l.le_refl⟩
theorem giveF {G : List Nat} {b : Nat} (h : fr.F (giveL L G) b) : fr.F L b := by
 rcases h with h | ⟨n, l, h1, h2⟩
 ·exact .inl h
 ·exact .inr ⟨n, l, (giveL_some h1 h2).1, h2⟩
theorem R.giveUp (hR : R fr S L a w) {G : List Nat} : R fr (S.upd (goneL G)) (giveL L G) a w := by
 have hM := hR.mem
 have hE : Ext w (fr.F L) w (fr.F (giveL L G)) := fun b s hx hn => ⟨hx, fun h => hn (giveF h)⟩
 refine ⟨⟨fun n ob hn => ?_, fun n l hn => ?_, fun n n' l l' b hn hn' hb hb' => hM.inj n n' l l' b (giveL_some hn hb).1 (giveL_some hn' hb').1 hb hb', fun n l b hn hb => hM.place n l b (giveL_some hn hb).1 hb, fun n l b hn hb => hM.kind n l b (giveL_some hn (blk_of_range hb)).1 hb, hM.parLt, hM.xLt, hM.frame, hM.lext.trans (giveL_ext L G)⟩, hR.nt, hR.defers, fun t p hp => ?_⟩
 ·rw [St.obj_upd, look_goneL] at hn
  simp only [giveL]
  split at hn
  ·rename_i hc
   simp at hn; subst hn
   exact ⟨.gone, by rw [if_pos hc], by simp [ObjAt]⟩
  ·rename_i hc
   simp at hn
   obtain ⟨l, h1, h2⟩ := hM.objs n ob hn
   exact ⟨l, by rw [if_neg hc]; exact h1, h2.mono hE (giveL_ext L G)⟩
 ·rw [St.obj_upd, look_goneL]
  simp only [giveL] at hn
  split at hn
  ·rename_i hc; exact ⟨_, by rw [if_pos hc]; rfl⟩
  ·rename_i hc; rw [if_neg hc]; simpa using hM.dom n l hn
 ·obtain ⟨x, h1, h2⟩ := hR.vals t p (by simpa using hp)
  exact ⟨x, h1, h2.mono hE (giveL_ext L G)⟩
theorem F_callG [Globs P] (hγ : γ = true) {dst : Option Nat} {x : Operand} {args : Array Operand} {ats : Array TypeId} {f : FuncId} {first caps ps qs : List PV} {r r2 : PV} {σ G news : List Nat} {cs objs objs' objs2 fresh fresh2 : List SObj}
  (hx : OpdO γ S x (.clo (.func f) first caps)) (hargs : OpdsO γ S args.toList ps) (hspec : Ctr P f qs objs r objs' fresh)
  (hconv : ConvL S (fwd PN σ) G (first ++ (ps ++ caps)) qs) (hobj : Objs S σ cs) (hco : SConvs S (fwd PN σ) [] cs objs) (hno : NoObjs S news)
  (hd1 : distinct σ = true) (hd2 : distinct news = true) (hσG : G.all (fun o => !σ.contains o) = true) (hnG : G.all (fun o => !news.contains o) = true) (hlf : Nat.beq fresh.length news.length = true) (hbig : Nat.ble σ.length 1000 = true)
  (hc1 : SConvs ⟨[], []⟩ (bwd PN σ ++ bwd FN news) [] objs' objs2) (hc2 : SConvs ⟨[], []⟩ (bwd PN σ ++ bwd FN news) [] fresh fresh2) (hcr : ConvP ⟨[], []⟩ (bwd PN σ ++ bwd FN news) [] r r2) :
  FStep P ⟨dst, .call { callee := .value x, args := args, argTypes := ats }, ty, pos, aft, g⟩ S (σ ++ (G ++ news)) ⟨r2, (zipO σ objs2 ++ zipO news fresh2) ++ goneL G⟩ := by
 intro fr S' ht hn L a w hR hG Q
 have hlf' := Nat.eq_of_beq_eq_true hlf
 have hbig' := Nat.le_of_ble_eq_true hbig
 have hGn : ∀ n, G.contains n = true → S'.obj n = S.obj n := fun n h => hn n (by simp at h; simp [h])
 have hx' := hx.rep hγ hR (fun t e => ht t (mem_tmps (x := x) (by simp [Op.operands, Call.operands]) t e))
 have ha' := hargs.rep hγ hR (fun y hy t e => ht t (mem_tmps (x := y) (by simp only [Op.operands, Call.operands]; simp; exact .inr (Array.mem_toList_iff.1 hy)) t e))
 have hconv' := (conv_agree_all hGn).2 hconv
 have hR2 := hR.giveUp (G := G)
 have hσG' : ∀ o, o ∈ σ → G.contains o = false := fun o ho => by
  cases hc : G.contains o with
  | false => rfl
  | true =>
   have := (List.all_eq_true.1 hσG) o (by simpa using hc)
   simp [ho] at this
 have hnG' : ∀ o, o ∈ news → G.contains o = false := fun o ho => by
  cases hc : G.contains o with
  | false => rfl
  | true =>
   have := (List.all_eq_true.1 hnG) o (by simpa using hc)
   simp [ho] at this
 have hS2 : ∀ n, G.contains n = false → (S'.upd (goneL G)).obj n = S'.obj n := fun n h => by
  rw [St.obj_upd, look_goneL, h]; simp
 have hobj' := hobj.agree (S' := S'.upd (goneL G)) (fun n h => (hS2 n (hσG' n h)).trans (hn n (by simp [h])))
 have hco' := hco.agree (S' := S'.upd (goneL G)) (fun n h => by simp at h)
 have hno' := hno.agree (S' := S'.upd (goneL G)) (fun n h => (hS2 n (hnG' n h)).trans (hn n (by simp [h])))
 obtain ⟨hcall, hsp⟩ := hspec
 have hM1 := call_entry (w := w) (B := []) hR2.mem hd1 (by rfl) hobj' hco'
 generalize hv : a.eval x = v at hx'
 cases hx' with
 | @clo _ _ _ _ fs cvs hf hcp =>
  have hall := repL_append hf (repL_append ha' hcp)
  have hcv := conv_rep_all (L' := subL (giveL L G) σ) (F' := (callFr fr (giveL L G) w σ []).F (callFr fr (giveL L G) w σ []).L0) hR.mem (σ := fwd PN σ) (B := G) (fun b h h' => h (giveF (callF_sub h'))) (fun o h l b h1 h2 h' => by
   rcases callF_sub h' with hX | ⟨n, l', k1, k2⟩
   ·exact (hR.mem.place o l b h1 h2).1 hX
   ·obtain ⟨m1, m2⟩ := giveL_some k1 k2
    have := hR.mem.inj o n l l' b h1 m1 h2 k2
    subst this
    rw [m2] at h; simp at h) (fun o o' h l hl => by
   obtain ⟨i, h1, rfl⟩ := look_fwd _ _ _ _ h
   rw [subL_at h1]
   simp only [giveL, hσG' o (List.mem_of_getElem? h1)]
   exact hl)
  have hargs' := hcv.2 hconv' _ hall
  have hC := hsp (callFr fr (giveL L G) w σ []) w _ rfl hG hM1 hargs'
  unfold Oper.wp
  have hrun : (execOp a.eval ⟨dst, .call { callee := .value x, args := args, argTypes := ats }, ty, pos, aft, g⟩).run P w = .ok (.enter f (fs ++ (args.toList.map a.eval ++ cvs)).toArray) w := by
   have : (fs ++ (args.toList.map a.eval ++ cvs)).toArray = fs.toArray ++ args.map a.eval ++ cvs.toArray := by
    apply Array.ext'; simp
   rw [this]
   simp only [execOp, resolve, hv, Deferred.ofValue, Sem.run_bind, Sem.run_pure, Result.andThen_ok, invoke]
   exact run_callFunc hcall _
  rw [hrun, Oper.upon_enter]
  refine hC.mono ?_
  rintro e w' ⟨v', L2, rfl, hlo, hM2, hr⟩
  have hsl : objs'.length = σ.length := by rw [hlo, ← hco'.get.1, ← hobj'.get.1]
  have hex := call_exit hR2 hd1 (by rfl) hobj' hd2 hno' hsl hlf' (by omega) hM2 hr hc1 hc2 hcr (.inl rfl)
  refine ⟨v', _, rfl, hex.1.eqv ⟨fun t => rfl, fun n => ?_⟩, hex.2⟩
  simp only [St.obj_upd, look_append, Option.or_assoc]
end
theorem cvView {S : St} {σ : List (Nat × Nat)} {B : List Nat} {o off len n sz : Nat} {nl : Bool} {es es2 : List PV} (h1 : B.contains o = true) (h2 : S.obj o = some (.arr sz nl es)) (h3 : Side (n = es.length)) (h4 : Side (plainL es = true)) (h5 : Side ((es.drop off).take len = es2)) : ConvP S σ B (.osl o off len n) (.sl nl sz es2) := by
 have : (es.drop off).take len = es2 := h5
 subst this
 exact .bView h1 h2 h3 h4
end Go.Sym
namespace Go.Sym
open Go.RowKit
section
variable {P : Program} {T : Tbl} {S : St} {γ : Bool}
variable {ty : Nat} {pos : String} {aft : Array Edge} {g : Option (Nat × Bool)}
theorem F_call0 [Globs P] (hγ : γ = true) {dst : Option Nat} {x : Operand} {args : Array Operand} {ats : Array TypeId} {f : FuncId} {first caps ps qs : List PV} {r r2 : PV} {B : List Nat}
  (hx : OpdO γ S x (.clo (.func f) first caps)) (hargs : OpdsO γ S args.toList ps) (hspec : Ctr P f qs [] r [] [])
  (hconv : ConvL S (fwd PN []) B (first ++ (ps ++ caps)) qs) (hσB : B.all (fun o => !([] : List Nat).contains o) = true) (hcr : ConvP ⟨[], []⟩ (bwd PN [] ++ bwd FN []) [] r r2)
  (hro : Side (B = [] ∨ (roFree r = true ∧ ([] : List SObj).all SObj.roFree = true ∧ ([] : List SObj).all SObj.roFree = true))) :
  FStep P ⟨dst, .call { callee := .value x, args := args, argTypes := ats }, ty, pos, aft, g⟩ S ([] ++ (B ++ [])) ⟨r2, []⟩ :=
 F_call (σ := []) (news := []) hγ hx hargs hspec hconv .nil .nil .nil rfl rfl hσB rfl rfl .nil .nil hcr hro
end
end Go.Sym
namespace Go.Sym
open Go.RowKit
section
variable {P : Program} {T : Tbl} {fr : Fr} {S S' : St} {L : LMap} {a : Act} {w : World} {γ : Bool}
variable {dst : Option Tmp} {ty : Nat} {pos : String} {aft : Array Edge} {g : Option (Nat × Bool)}
inductive ElemZ : List Value → PV → Prop
 | one {z : Value} : ElemZ [z] (.v z)
 | agg {zs : List Value} : ElemZ zs (.agg (zs.map .v))
theorem ElemZ.cells {zs : List Value} {p : PV} (h : ElemZ zs p) : p.cells = zs.map .v := by cases h <;> rfl
theorem madeCells_flat (zs : List Value) : ∀ n : Nat, zs ≠ [] → (madeCells zs.toArray (n * zs.length)).toList = (List.replicate n zs).flatMap id := by
 intro n h0
 have hz : 0 < zs.length := List.length_pos_iff.2 h0
 refine List.ext_getElem ?_ ?_
 ·simp [madeCells, List.flatMap, List.length_flatten]
 ·intro i h1 h2
  have e : (madeCells zs.toArray (n * zs.length)).toList[i] = zs[i % zs.length]! := by simp [madeCells]
  rw [e]
  clear h1 e
  induction n generalizing i with
  | zero => simp at h2
  | succ n ih =>
   simp only [List.replicate_succ, List.flatMap_cons, id] at h2 ⊢
   by_cases h : i < zs.length
   ·rw [List.getElem_append_left h, Nat.mod_eq_of_lt h, getElem!_pos zs i h]
   ·rw [List.getElem_append_right (by omega)]
    rw [← ih (i - zs.length) (by rw [List.length_append] at h2; omega)]
    rw [Nat.mod_eq_sub_mod (by omega)]
theorem F_makeSlice [Globs P] (hT : TOk P T) (hγ : γ = true) {k t e : Nat} {x y : Operand} {kl kc : IntKind} {n c : Int} {ti ei : TI} {zs : List Value} {p : PV} {sz by_ : Nat} (hx : OpdO γ S x (.v (.int kl n))) (hy : OpdO γ S y (.v (.int kc c)))
  (hl : look T t = some ti) (hd : ti.d = .slice e) (hle : look T e = some ei) (hz : ei.zero = some zs) (hsz : ei.size = sz) (hby : ei.bytes = by_) (hzs : Nat.beq zs.length sz = true) (hz0 : Nat.beq sz 0 = false) (hp : ElemZ zs p)
  (hb : Side (0 ≤ n ∧ n ≤ c ∧ (by_ : Int) * c ≤ 281474976710656 ∧ c ≤ 9223372036854775807)) (hk : S.obj k = none) :
  FStep P ⟨some k, .makeSlice t x y, ty, pos, aft, g⟩ S [k] ⟨.osl k 0 n.toNat n.toNat, [(k, .arr sz false (List.replicate n.toNat p))]⟩ := by
 intro fr S' ht hn L a w hR hG Q
 obtain ⟨h0, hnc, hbytes, h63⟩ := hb
 have h1 := (hx.rep hγ hR (fun t e => ht t (mem_tmps (x := x) (by simp [Op.operands]) t e))).inv_v
 have h2 := (hy.rep hγ hR (fun t e => ht t (mem_tmps (x := y) (by simp [Op.operands]) t e))).inv_v
 subst hsz
 have hzl : zs.length = ei.size := Nat.eq_of_beq_eq_true hzs
 have hne : zs ≠ [] := fun h => by rw [h] at hzl; rw [← hzl] at hz0; simp at hz0
 obtain ⟨z, hzr, hzc, info, hi, hiz, his, hib⟩ := zero_of hT hle hz w
 have hr := run_make (P := P) w t e info z (und_slice hT hl hd) hi hiz kl kc n c h0 hnc (by rw [hib, hby]; exact hbytes) h63
 rw [hzc, his, ← hzl] at hr
 have hflat := madeCells_flat zs c.toNat hne
 have hcm : (madeCells zs.toArray (c.toNat * zs.length)) = ((List.replicate c.toNat zs).flatMap id).toArray := by rw [← hflat]
 rw [hcm] at hr
 have hpc := hp.cells
 have hes : ∀ q ∈ List.replicate n.toNat p, q.cells.length = ei.size := fun q hq => by
  rw [List.eq_of_mem_replicate hq, hpc, List.length_map, hzl]
 have hcells : cellsOf (List.replicate n.toNat p) = ((List.replicate n.toNat zs).flatMap id).map .v := by
  generalize n.toNat = m
  induction m with
  | zero => rfl
  | succ m ih =>
   simp only [cellsOf, List.replicate_succ, List.flatMap_cons, id, List.map_append, hpc] at ih ⊢
   rw [ih]
 have htake : ((List.replicate c.toNat zs).flatMap id).take (n.toNat * ei.size) = (List.replicate n.toNat zs).flatMap id := by
  have : List.replicate c.toNat zs = List.replicate n.toNat zs ++ List.replicate (c.toNat - n.toNat) zs := by
   rw [List.replicate_append_replicate]; congr 1; omega
  rw [this, List.flatMap_append]
  refine List.take_left' ?_
  rw [← hzl]
  generalize n.toNat = m
  induction m with
  | zero => simp
  | succ m ih => simp only [List.replicate_succ, List.flatMap_cons, id, List.length_append, ih]; rw [Nat.succ_mul]; omega
 have hclen : ((List.replicate c.toNat zs).flatMap id).length = c.toNat * ei.size := by
  rw [← hzl]
  generalize c.toNat = m
  induction m with
  | zero => simp
  | succ m ih => simp only [List.replicate_succ, List.flatMap_cons, id, List.length_append, ih]; rw [Nat.succ_mul]; omega
 obtain ⟨L', k1, k2⟩ := hR.newArr (cap := c.toNat) ((hn k (by simp)).trans hk) (es := List.replicate n.toNat p) (vs := (List.replicate c.toNat zs).flatMap id) hes (by
  rw [List.length_replicate, htake, hcells]; exact repL_map_v _ _ _ _) hclen (by rw [List.length_replicate]; omega) e
 unfold Oper.wp
 have hrun : (execOp a.eval ⟨some k, .makeSlice t x y, ty, pos, aft, g⟩).run P w = .ok (.value (.slice (some ⟨w.heap.size, 0, none⟩) n.toNat c.toNat)) (w.alloc (.cells ((List.replicate c.toNat zs).flatMap id).toArray e)) := by
  simp only [execOp, Sem.run_bind, h1, h2, hr, Result.andThen_ok, Sem.run_pure]
 rw [hrun, Oper.upon_value]
 rw [List.length_replicate] at k2
 exact ⟨_, L', rfl, k1, oslFull k2 (by omega)⟩
@[reducible] def u8V (b : UInt8) : PV := .v (.int .u8 (b.toNat : Int))
theorem repL_u8 {F : Nat → Prop} : ∀ {l : List UInt8} {news : List Value}, RepL w F L (cellsOf (l.map u8V)) news → news = l.map fun b => Value.int .u8 (b.toNat : Int)
 | [], news, h => by cases h; rfl
 | b :: r, news, h => by
  simp only [List.map_cons, cellsOf, List.flatMap_cons, PV.cells, List.cons_append, List.nil_append] at h
  cases h with
  | cons g1 g2 => rw [g1.inv_v, repL_u8 g2]; rfl
theorem F_bytesToString [Globs P] (hT : TOk P T) (hγ : γ = true) {s t e : Nat} {x : Operand} {p : PV} {rn : List Nat} {xs : List PV} {l : List UInt8} {si ti ei : TI} (hx : OpdO γ S x p) (hs : look T s = some si) (hsd : si.d = .slice e) (hle : look T e = some ei) (hed : ei.d = .int .u8)
  (hl : look T t = some ti) (htd : ti.d = .str) (hsrc : SrcR S (.slice e) 1 p rn xs) (hxs : Side (xs = l.map u8V)) : FStep P ⟨dst, .convert s t x, ty, pos, aft, g⟩ S rn ⟨sV l, []⟩ := by
 refine FStep.val fun fr S' L a w ht hn hR => ?_
 have h1 := hx.rep hγ hR (ht x (by simp [Op.operands]))
 obtain ⟨news, hlen, hf1, _, hnews, hcl, _⟩ := hsrc.sound (P := P) hR hn h1
 have hxs' : xs = l.map u8V := hxs
 have hvals : news = l.map fun b => Value.int .u8 (b.toNat : Int) := by
  rw [hxs'] at hnews
  exact repL_u8 hnews
 have hxl : xs.length = l.length := by rw [hxs', List.length_map]
 have hmap : news = (l.map fun b => (b.toNat : Int)).map (Value.int .u8) := by rw [hvals, List.map_map]; rfl
 have hback : (l.map fun b => (b.toNat : Int)).map (fun n => UInt8.ofNat n.toNat) = l := by
  rw [List.map_map]
  conv => rhs; rw [← List.map_id l]
  apply List.map_congr_left
  intro b _
  simp
 have hus := und_slice hT hs hsd
 have hue := und_int hT hle hed
 have hut := und_str hT hl htd
 refine ⟨.string ⟨⟨l⟩⟩, ?_, .v _ _⟩
 simp only [execOp, Sem.run_bind]
 generalize a.eval x = v at *
 have hconv : (convert s t v).run P w = .ok (.string ⟨⟨l⟩⟩) w := by
  cases hsrc with
  | sl =>
   cases h1 with
   | slNil =>
    have : l = [] := by simpa using hxs'.symm
    subst this
    exact run_convert_bytes_nil (P := P) w s e hus hue 0 0 t hut
   | slE =>
    have : l = [] := by simpa using hxs'.symm
    subst this
    rw [run_convert_bytes_string w s t e _ _ _ hus hue hut, run_bytesToString w _ _ _ [] (by simp [loadCells, loadCellsFrom])]
    rfl
   | sl q1 q2 q3 =>
    simp only [Builtin.firstCells, Nat.mul_one] at hf1
    rw [run_convert_bytes_string w s t e _ _ _ hus hue hut, run_bytesToString w _ _ _ (l.map fun b => (b.toNat : Int)) (by rw [q1]; rw [← hmap]; exact hf1), foldl_push_bytes, hback]
    (simp [ByteArray.empty, ByteArray.emptyWithCapacity]; rfl)
  | nil =>
   have := h1.inv_v
   subst this
   have : l = [] := by simpa using hxs'.symm
   subst this
   exact run_convert_bytes_nil (P := P) w s e hus hue 0 0 t hut
  | full ho hs2 =>
   rename_i o n isnil
   cases h1 with
   | osl q1 q2 q3 =>
    obtain ⟨b, m, c, rfl⟩ := q3
    cases b with
    | none =>
     simp only [Builtin.firstCells, Sem.run_pure] at hf1
     have : news = [] := by simpa using hf1.symm
     rw [this] at hmap
     have : l = [] := by simpa using hmap.symm
     subst this
     exact run_convert_bytes_nil (P := P) w s e hus hue _ _ t hut
    | some ad =>
     simp only [Builtin.firstCells, Nat.mul_one] at hf1
     have hm : m = xs.length := by simpa [Builtin.lenOf] using hlen
     rw [run_convert_bytes_string w s t e _ _ _ hus hue hut, run_bytesToString w _ _ _ (l.map fun b => (b.toNat : Int)) (by rw [hm, ← hmap]; exact hf1), foldl_push_bytes, hback]
     (simp [ByteArray.empty, ByteArray.emptyWithCapacity]; rfl)
  | part ho hs2 =>
   cases h1 with
   | osl q1 q2 q3 =>
    obtain ⟨b, m, c, rfl⟩ := q3
    cases b with
    | none =>
     simp only [Builtin.firstCells, Sem.run_pure] at hf1
     have : news = [] := by simpa using hf1.symm
     rw [this] at hmap
     have : l = [] := by simpa using hmap.symm
     subst this
     exact run_convert_bytes_nil (P := P) w s e hus hue _ _ t hut
    | some ad =>
     simp only [Builtin.firstCells, Nat.mul_one] at hf1
     simp only [Builtin.lenOf, Sem.run_pure, Result.ok.injEq, and_true] at hlen
     rw [run_convert_bytes_string w s t e _ _ _ hus hue hut, run_bytesToString w _ _ _ (l.map fun b => (b.toNat : Int)) (by rw [← hmap, hlen]; exact hf1), foldl_push_bytes, hback]
     (simp [ByteArray.empty, ByteArray.emptyWithCapacity]; rfl)
 rw [hconv]; rfl
end
end Go.Sym
