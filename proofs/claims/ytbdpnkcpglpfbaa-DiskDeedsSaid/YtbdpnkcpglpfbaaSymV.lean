/- The logic 'Sym': calls that give own objects up, for good. -/
import Derived.Test.YtbdpnkcpglpfbaaSymU
namespace Go.Sym
open Go.RowKit

section
variable {P : Program} {T : Tbl} {fr : Fr} {S S' : St} {L L' : LMap} {a : Act} {w : World} {F F' : Nat → Prop} {γ : Bool}
variable {ty : Nat} {pos : String} {aft : Array Edge} {g : Option (Nat × Bool)} {dst : Option Nat}

theorem ObjAt.mono {ob : SObj} {l : Loc} (h : ObjAt w F L ob l) (hE : Ext w F w F') (hl : LExt L L') : ObjAt w F' L' ob l := by
  cases ob with
  | box cs =>
    cases l with
    | box b off k => exact ⟨h.1, fun j c hj => by obtain ⟨x, g1, g2, g3⟩ := h.2 j c hj; exact ⟨x, g1, g2, g3.mono hE hl⟩⟩
    | arr => exact h.elim
    | gone => exact h.elim
  | arr sz nl es =>
    cases l with
    | arr base n' cap sz' =>
      cases base with
      | none => exact h
      | some bo =>
        obtain ⟨k1, k2, k3, k4, k5, k6, k7⟩ := h
        exact ⟨k1, k2, k3, k4, k5, fun j c hj => by obtain ⟨x, g1, g2, g3⟩ := k6 j c hj; exact ⟨x, g1, g2, g3.mono hE hl⟩, k7⟩
    | box => exact h.elim
    | gone => exact h.elim
  | arrc sz nl es cc =>
    cases l with
    | arr base n' cap sz' =>
      cases base with
      | none => exact h
      | some bo =>
        obtain ⟨k0, k1, k2, k3, k4, k5, k6, k7⟩ := h
        exact ⟨k0, k1, k2, k3, k4, k5, fun j c hj => by obtain ⟨x, g1, g2, g3⟩ := k6 j c hj; exact ⟨x, g1, g2, g3.mono hE hl⟩, k7⟩
    | box => exact h.elim
    | gone => exact h.elim
  | gone => cases l <;> exact h

def giveL (L : LMap) (G : List Nat) : LMap := fun n => if G.contains n then some .gone else L n
def goneL (G : List Nat) : List (Nat × SObj) := G.map fun n => (n, SObj.gone)
theorem look_goneL {G : List Nat} {n : Nat} : look (goneL G) n = if G.contains n then some .gone else none := by
  induction G with
  | nil => rfl
  | cons k r ih =>
    simp only [goneL, List.map_cons] at ih ⊢
    rw [look_cons, ih]
    by_cases e : k = n
    · subst e; simp
    · have : ¬ n = k := fun h => e h.symm
      simp [e, this]

theorem giveL_some {G : List Nat} {n b : Nat} {l : Loc} (h : giveL L G n = some l) (hb : l.blk = some b) : L n = some l ∧ G.contains n = false := by
  simp only [giveL] at h
  split at h
  · cases h; simp [Loc.blk] at hb
  · rename_i hc; exact ⟨h, by simpa using hc⟩

theorem giveL_ext (L : LMap) (G : List Nat) : LExt L (giveL L G) := fun o l h => by
  simp only [giveL]
  split
  · exact ⟨_, rfl, fun _ _ _ => trivial, fun _ _ _ _ _ => trivial, fun _ _ _ _ _ => trivial⟩
  · exact ⟨l, h, l.le_refl⟩

theorem giveF {G : List Nat} {b : Nat} (h : fr.F (giveL L G) b) : fr.F L b := by
  rcases h with h | ⟨n, l, h1, h2⟩
  · exact .inl h
  · exact .inr ⟨n, l, (giveL_some h1 h2).1, h2⟩

theorem R.giveUp (hR : R fr S L a w) {G : List Nat} : R fr (S.upd (goneL G)) (giveL L G) a w := by
  have hM := hR.mem
  have hE : Ext w (fr.F L) w (fr.F (giveL L G)) := fun b off x hx hn => ⟨hx, fun h => hn (giveF h)⟩
  refine ⟨⟨fun n ob hn => ?_, fun n l hn => ?_, fun n n' l l' b hn hn' hb hb' => hM.inj n n' l l' b (giveL_some hn hb).1 (giveL_some hn' hb').1 hb hb', fun n l b hn hb => hM.place n l b (giveL_some hn hb).1 hb, fun n l b hn hb => hM.kind n l b (giveL_some hn hb).1 hb, hM.parLt, hM.xLt, hM.frame, hM.lext.trans (giveL_ext L G)⟩, hR.nt, hR.defers, fun t p hp => ?_⟩
  · rw [St.obj_upd, look_goneL] at hn
    simp only [giveL]
    split at hn
    · rename_i hc
      simp at hn; subst hn
      exact ⟨.gone, by rw [if_pos hc], by simp [ObjAt]⟩
    · rename_i hc
      simp at hn
      obtain ⟨l, h1, h2⟩ := hM.objs n ob hn
      exact ⟨l, by rw [if_neg hc]; exact h1, h2.mono hE (giveL_ext L G)⟩
  · rw [St.obj_upd, look_goneL]
    simp only [giveL] at hn
    split at hn
    · rename_i hc; exact ⟨_, by rw [if_pos hc]; rfl⟩
    · rename_i hc; rw [if_neg hc]; simpa using hM.dom n l hn
  · obtain ⟨x, h1, h2⟩ := hR.vals t p (by simpa using hp)
    exact ⟨x, h1, h2.mono hE (giveL_ext L G)⟩

/-- A call that gives the objects G up: what is read of them is so for good. -/
theorem F_callG (hγ : γ = true) {dst : Option Nat} {x : Operand} {args : Array Operand} {ats : Array TypeId} {f : FuncId} {first caps ps qs : List PV} {r r2 : PV} {σ G news : List Nat} {cs objs objs' objs2 fresh fresh2 : List SObj}
    (hx : OpdO γ S x (.clo (.func f) first caps)) (hargs : OpdsO γ S args.toList ps) (hspec : Ctr P f qs objs r objs' fresh)
    (hconv : ConvL S (fwd PN σ) G (first ++ (ps ++ caps)) qs) (hobj : Objs S σ cs) (hco : SConvs S (fwd PN σ) [] cs objs) (hno : NoObjs S news)
    (hd1 : distinct σ = true) (hd2 : distinct news = true) (hσG : G.all (fun o => !σ.contains o) = true) (hnG : G.all (fun o => !news.contains o) = true) (hlf : Nat.beq fresh.length news.length = true) (hbig : Nat.ble σ.length 1000 = true)
    (hc1 : SConvs ⟨[], []⟩ (bwd PN σ ++ bwd FN news) [] objs' objs2) (hc2 : SConvs ⟨[], []⟩ (bwd PN σ ++ bwd FN news) [] fresh fresh2) (hcr : ConvP ⟨[], []⟩ (bwd PN σ ++ bwd FN news) [] r r2) :
    FStep P ⟨dst, .call { callee := .value x, args := args, argTypes := ats }, ty, pos, aft, g⟩ S (σ ++ (G ++ news)) ⟨r2, (zipO σ objs2 ++ zipO news fresh2) ++ goneL G⟩ := by
  intro fr S' ht hn L a w hR Q
  have hlf' := Nat.eq_of_beq_eq_true hlf
  have hbig' := Nat.le_of_ble_eq_true hbig
  have hGn : ∀ n, G.contains n = true → S'.obj n = S.obj n := fun n h => hn n (by simp at h; simp [h])
  have hx' := hx.rep hγ hR (fun t e => ht t (mem_tmps (x := x) (by simp [Op.operands, Call.operands]) t e))
  have ha' := hargs.rep hγ hR (fun y hy t e => ht t (mem_tmps (x := y) (by simp only [Op.operands, Call.operands]; simp; exact .inr (Array.mem_toList_iff.1 hy)) t e))
  have hconv' := (conv_agree_all hGn).2 hconv
  have hR2 := hR.giveUp (G := G)
  have hσG' : ∀ o, o ∈ σ → G.contains o = false := fun o ho => by
    cases hc : G.contains o with
    | false => rfl
    | true =>
      have := (List.all_eq_true.1 hσG) o (by simpa using hc)
      simp [ho] at this
  have hnG' : ∀ o, o ∈ news → G.contains o = false := fun o ho => by
    cases hc : G.contains o with
    | false => rfl
    | true =>
      have := (List.all_eq_true.1 hnG) o (by simpa using hc)
      simp [ho] at this
  have hS2 : ∀ n, G.contains n = false → (S'.upd (goneL G)).obj n = S'.obj n := fun n h => by
    rw [St.obj_upd, look_goneL, h]; simp
  have hobj' := hobj.agree (S' := S'.upd (goneL G)) (fun n h => (hS2 n (hσG' n h)).trans (hn n (by simp [h])))
  have hco' := hco.agree (S' := S'.upd (goneL G)) (fun n h => by simp at h)
  have hno' := hno.agree (S' := S'.upd (goneL G)) (fun n h => (hS2 n (hnG' n h)).trans (hn n (by simp [h])))
  obtain ⟨hcall, hsp⟩ := hspec
  have hM1 := call_entry (w := w) (B := []) hR2.mem hd1 (by rfl) hobj' hco'
  generalize hv : a.eval x = v at hx'
  cases hx' with
  | @clo _ _ _ _ fs cvs hf hcp =>
    have hall := repL_append hf (repL_append ha' hcp)
    have hcv := conv_rep_all (L' := subL (giveL L G) σ) (F' := (callFr fr (giveL L G) w σ []).F (callFr fr (giveL L G) w σ []).L0) hR.mem (σ := fwd PN σ) (B := G) (fun b h h' => h (giveF (callF_sub h'))) (fun o h l b h1 h2 h' => by
      rcases callF_sub h' with hX | ⟨n, l', k1, k2⟩
      · exact (hR.mem.place o l b h1 h2).1 hX
      · obtain ⟨m1, m2⟩ := giveL_some k1 k2
        have := hR.mem.inj o n l l' b h1 m1 h2 k2
        subst this
        rw [m2] at h; simp at h) (fun o o' h l hl => by
      obtain ⟨i, h1, rfl⟩ := look_fwd _ _ _ _ h
      rw [subL_at h1]
      simp only [giveL, hσG' o (List.mem_of_getElem? h1)]
      exact hl)
    have hargs' := hcv.2 hconv' _ hall
    have hC := hsp (callFr fr (giveL L G) w σ []) w _ rfl hM1 hargs'
    unfold Oper.wp
    have hrun : (execOp a.eval ⟨dst, .call { callee := .value x, args := args, argTypes := ats }, ty, pos, aft, g⟩).run P w = .ok (.enter f (fs ++ (args.toList.map a.eval ++ cvs)).toArray) w := by
      have : (fs ++ (args.toList.map a.eval ++ cvs)).toArray = fs.toArray ++ args.map a.eval ++ cvs.toArray := by
        apply Array.ext'; simp
      rw [this]
      simp only [execOp, resolve, hv, Deferred.ofValue, Sem.run_bind, Sem.run_pure, Result.andThen_ok, invoke]
      exact run_callFunc hcall _
    rw [hrun, Oper.upon_enter]
    refine hC.mono ?_
    rintro e w' ⟨v', L2, rfl, hlo, hM2, hr⟩
    have hsl : objs'.length = σ.length := by rw [hlo, ← hco'.get.1, ← hobj'.get.1]
    have hex := call_exit hR2 hd1 (by rfl) hobj' hd2 hno' hsl hlf' (by omega) hM2 hr hc1 hc2 hcr (.inl rfl)
    refine ⟨v', _, rfl, hex.1.eqv ⟨fun t => rfl, fun n => ?_⟩, hex.2⟩
    simp only [St.obj_upd, look_append, Option.or_assoc]
end

theorem cvView {S : St} {σ : List (Nat × Nat)} {B : List Nat} {o off len n sz : Nat} {nl : Bool} {es es2 : List PV} (h1 : B.contains o = true) (h2 : S.obj o = some (.arr sz nl es)) (h3 : Side (n = es.length)) (h4 : Side (plainL es = true)) (h5 : Side ((es.drop off).take len = es2)) : ConvP S σ B (.osl o off len n) (.sl nl sz es2) := by
  have : (es.drop off).take len = es2 := h5
  subst this
  exact .bView h1 h2 h3 h4
end Go.Sym
