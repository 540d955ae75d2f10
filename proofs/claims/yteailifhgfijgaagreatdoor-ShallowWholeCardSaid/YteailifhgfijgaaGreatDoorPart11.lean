/- A part of the proof: SymO. -/
import Derived.Test.YteailifhgfijgaaGreatDoorPart10
set_option linter.unusedVariables false
set_option linter.unusedSimpArgs false
namespace Go.Sym
open Go.RowKit
section
variable {P : Program} {T : Tbl} {fr : Fr} {S S' : St} {L : LMap} {a : Act} {w : World} {γ : Bool}
variable {ty : Nat} {pos : String} {aft : Array Edge} {g : Option (Nat × Bool)}
theorem conv_agree_all {σ : List (Nat × Nat)} {B : List Nat} (hB : ∀ n, B.contains n = true → S'.obj n = S.obj n) : (∀ {p q}, ConvP S σ B p q → ConvP S' σ B p q) ∧ (∀ {p q}, ConvL S σ B p q → ConvL S' σ B p q) := by
 have c : ∀ {p q}, ConvP S σ B p q → ConvP S' σ B p q := fun {p q} h => by
  refine @ConvP.rec S σ B (fun p q _ => ConvP S' σ B p q) (fun p q _ => ConvL S' σ B p q) ?_ ?_ ?_ ?_ ?_ ?_ ?_ ?_ ?_ ?_ ?_ ?_ ?_ ?_ ?_ ?_ ?_ ?_ ?_ ?_ ?_ ?_ ?_ ?_ p q h
  ·exact .v
  ·exact fun _ ih => .agg ih
  ·exact fun _ ih => .tup ih
  ·exact .sl
  ·exact .rp
  ·exact fun h => .ref h
  ·exact fun h => .eref h
  ·exact fun h => .osl h
  ·exact fun _ _ i1 i2 => .clo i1 i2
  ·exact fun _ ih => .ifc ih
  ·exact fun h => .mref h
  ·exact fun h1 h2 h3 h4 => .bArr h1 ((hB _ h1).trans h2) h3 h4
  ·exact fun h1 h2 h3 h4 => .bView h1 ((hB _ h1).trans h2) h3 h4
  ·exact fun h1 h2 h3 h4 => .bBox h1 ((hB _ h1).trans h2) h3 h4
  ·exact .dead
  ·exact .nilS
  ·exact .nilR
  ·exact .mp
  ·exact fun h1 h2 h3 => .bMap h1 ((hB _ h1).trans h2) h3
  ·exact .nilM
  ·exact .it
  ·exact .slf
  ·exact .nil
  ·exact fun _ _ i1 i2 => .cons i1 i2
 refine ⟨c, fun {p q} h => ?_⟩
 induction q generalizing p with
 | nil => cases h; exact .nil
 | cons d ds ih => cases h with | cons g1 g2 => exact .cons (c g1) (ih g2)
theorem SConvs.agree {σ : List (Nat × Nat)} {B : List Nat} (hB : ∀ n, B.contains n = true → S'.obj n = S.obj n) : ∀ {os os' : List SObj}, SConvs S σ B os os' → SConvs S' σ B os os'
 | _, _, .nil => .nil
 | _, _, .cons h1 h2 => .cons (by cases h1 with | box h => exact .box ((conv_agree_all hB).2 h) | arr h => exact .arr h | map h => exact .map h) (h2.agree hB)
theorem Objs.agree : ∀ {ns : List Nat} {os : List SObj}, (∀ n ∈ ns, S'.obj n = S.obj n) → Objs S ns os → Objs S' ns os
 | _, _, _, .nil => .nil
 | _, _, h, .cons h1 h2 => .cons ((h _ (by simp)).trans h1) (h2.agree fun n hn => h n (by simp [hn]))
theorem NoObjs.agree : ∀ {ns : List Nat}, (∀ n ∈ ns, S'.obj n = S.obj n) → NoObjs S ns → NoObjs S' ns
 | _, _, .nil => .nil
 | _, h, .cons h1 h2 => .cons ((h _ (by simp)).trans h1) (h2.agree fun n hn => h n (by simp [hn]))
theorem repL_append {F : Nat → Prop} : ∀ {ps qs : List PV} {us vs : List Value}, RepL w F L ps us → RepL w F L qs vs → RepL w F L (ps ++ qs) (us ++ vs)
 | [], _, _, _, h, k => by cases h; exact k
 | _ :: _, _, _, _, h, k => by cases h with | cons h1 h2 => exact .cons h1 (repL_append h2 k)
theorem run_callFunc {f : FuncId} (hc : callable P f) (args : Array Value) : (callFunc f args).run P w = .ok (.enter f args) w := by
 obtain ⟨fn, h1, h2, h3⟩ := hc
 have h4 : fn.body.isNone = false := by cases hb : fn.body <;> simp [hb] at h2 ⊢
 unfold callFunc
 simp only [Sem.run_bind, run_program, Result.andThen_ok, h1, h3, h4]
 rfl
theorem F_call [Globs P] (hγ : γ = true) {dst : Option Nat} {x : Operand} {args : Array Operand} {ats : Array TypeId} {f : FuncId} {first caps ps qs : List PV} {r r2 : PV} {σ B news : List Nat} {cs objs objs' objs2 fresh fresh2 : List SObj}
  (hx : OpdO γ S x (.clo (.func f) first caps)) (hargs : OpdsO γ S args.toList ps) (hspec : Ctr P f qs objs r objs' fresh)
  (hconv : ConvL S (fwd PN σ) B (first ++ (ps ++ caps)) qs) (hobj : Objs S σ cs) (hco : SConvs S (fwd PN σ) B cs objs) (hno : NoObjs S news)
  (hd1 : distinct σ = true) (hd2 : distinct news = true) (hσB : B.all (fun o => !σ.contains o) = true) (hlf : Nat.beq fresh.length news.length = true) (hbig : Nat.ble σ.length 1000 = true)
  (hc1 : SConvs ⟨[], []⟩ (bwd PN σ ++ bwd FN news) [] objs' objs2) (hc2 : SConvs ⟨[], []⟩ (bwd PN σ ++ bwd FN news) [] fresh fresh2) (hcr : ConvP ⟨[], []⟩ (bwd PN σ ++ bwd FN news) [] r r2)
  (hro : Side (B = [] ∨ (roFree r = true ∧ objs'.all SObj.roFree = true ∧ fresh.all SObj.roFree = true))) :
  FStep P ⟨dst, .call { callee := .value x, args := args, argTypes := ats }, ty, pos, aft, g⟩ S (σ ++ (B ++ news)) ⟨r2, zipO σ objs2 ++ zipO news fresh2⟩ := by
 intro fr S' ht hn L a w hR hG Q
 have hlf' := Nat.eq_of_beq_eq_true hlf
 have hbig' := Nat.le_of_ble_eq_true hbig
 have hBn : ∀ n, B.contains n = true → S'.obj n = S.obj n := fun n h => hn n (by simp at h; simp [h])
 have hx' := hx.rep hγ hR (fun t e => ht t (mem_tmps (x := x) (by simp [Op.operands, Call.operands]) t e))
 have ha' := hargs.rep hγ hR (fun y hy t e => ht t (mem_tmps (x := y) (by simp only [Op.operands, Call.operands]; simp; exact .inr (Array.mem_toList_iff.1 hy)) t e))
 have hconv' := (conv_agree_all hBn).2 hconv
 have hobj' := hobj.agree (S' := S') (fun n h => hn n (by simp [h]))
 have hco' := hco.agree hBn
 have hno' := hno.agree (S' := S') (fun n h => hn n (by simp [h]))
 obtain ⟨hcall, hsp⟩ := hspec
 have hM1 := call_entry (w := w) hR.mem hd1 hσB hobj' hco'
 generalize hv : a.eval x = v at hx'
 cases hx' with
 | @clo _ _ _ _ fs cvs hf hcp =>
  have hall := repL_append hf (repL_append ha' hcp)
  have hcv := conv_rep_all (L' := subL L σ) (F' := (callFr fr L w σ B).F (callFr fr L w σ B).L0) hR.mem (σ := fwd PN σ) (B := B) (fun b h h' => h (callF_sub h')) (fun o h l b h1 h2 => callF_B hR.mem hσB h h1 h2) (fun o o' h l hl => by
   obtain ⟨i, h1, rfl⟩ := look_fwd _ _ _ _ h
   rw [subL_at h1]; exact hl)
  have hargs' := hcv.2 hconv' _ hall
  have hC := hsp (callFr fr L w σ B) w _ rfl hG hM1 hargs'
  unfold Oper.wp
  have hrun : (execOp a.eval ⟨dst, .call { callee := .value x, args := args, argTypes := ats }, ty, pos, aft, g⟩).run P w = .ok (.enter f (fs ++ (args.toList.map a.eval ++ cvs)).toArray) w := by
   have : (fs ++ (args.toList.map a.eval ++ cvs)).toArray = fs.toArray ++ args.map a.eval ++ cvs.toArray := by
    apply Array.ext'; simp
   rw [this]
   simp only [execOp, resolve, hv, Deferred.ofValue, Sem.run_bind, Sem.run_pure, Result.andThen_ok, invoke]
   exact run_callFunc hcall _
  rw [hrun, Oper.upon_enter]
  refine hC.mono ?_
  rintro e w' ⟨v', L2, rfl, hlo, hM2, hr⟩
  have hsl : objs'.length = σ.length := by rw [hlo, ← hco'.get.1, ← hobj'.get.1]
  have hex := call_exit hR hd1 hσB hobj' hd2 hno' hsl hlf' (by omega) hM2 hr hc1 hc2 hcr hro
  exact ⟨v', _, rfl, hex.1, hex.2⟩
end
def Fr.Ok (nt : Nat) (fr : Fr) : Prop := fr.nt = nt ∧ ∀ n l, fr.L0 n = some l → PN ≤ n
def Trip (P : Program) [Globs P] (nt : Nat) (S : St) (c : Code) (Q : Exit → St → Prop) : Prop :=
 ∀ fr : Fr, fr.Ok nt → fr.gl = Globs.gl P → ∀ L a w, R fr S L a w → c.wp P (fun e a' w' => ∃ S' L', R fr S' L' a' w' ∧ Q e S') a w
def Weak (nt : Nat) (S S' : St) : Prop := ∀ fr : Fr, fr.Ok nt → ∀ L a w, R fr S L a w → ∃ L', R fr S' L' a w
inductive Exec (P : Program) [Globs P] (ops : Array Oper) : List Oper → Nat → St → List Ent → St → Prop
 | nil {k : Nat} {S : St} : Exec P ops [] k S [] S
 | cons {o : Oper} {r : List Oper} {k : Nat} {S S' : St} {rn : List Nat} {d : Delta} {es : List Ent} : GStep P ops o S rn d → Exec P ops r (k + 1) (S.app o.dst d) es S' → Exec P ops (o :: r) k S ((k, rn, d) :: es) S'
section
variable {P : Program} {nt : Nat} {S S' : St} {Q : Exit → St → Prop}
theorem Exec.chain [Globs P] {ops : Array Oper} : ∀ {l : List Oper} {k : Nat} {S S' : St} {es : List Ent}, Exec P ops l k S es S' → (∀ i, l[i]? = ops[k + i]?) → Chain P ops es S S' ∧ es.map (·.1) = (List.range l.length).map (k + ·)
 | [], k, S, S', es, h, _ => by cases h; exact ⟨St.eqv.refl S, rfl⟩
 | o :: r, k, S, S', es, h, hl => by
  cases h with
  | cons h1 h2 =>
   obtain ⟨k1, k2⟩ := h2.chain (fun i => by
    have := hl (i + 1)
    rw [List.getElem?_cons_succ] at this
    rw [this]; congr 1; omega)
   refine ⟨⟨o, ?_, h1, k1⟩, ?_⟩
   ·have := hl 0
    simpa using this.symm
   ·simp only [List.map_cons, k2, List.length_cons, List.range_succ_eq_map, List.map_map, Nat.add_zero]
    congr 1
    apply List.map_congr_left
    intro i _
    simp; omega
theorem Exec.all [Globs P] {ops : List Oper} {es : List Ent} (h : Exec P ops.toArray ops 0 S es S') : Chain P ops.toArray es S S' ∧ es.map (·.1) = List.range ops.toArray.size := by
 obtain ⟨h1, h2⟩ := h.chain (fun i => by simp)
 refine ⟨h1, ?_⟩
 rw [h2]
 simp
theorem Trip.region [Globs P] {ops : List Oper} {id : Nat} {es : List Ent} (h : Exec P ops.toArray ops 0 S es S') (hb : dstsBelow ops.toArray nt = true) (hQ : Q .normal S') : Trip P nt S (.region id ops.toArray false) Q := by
 intro fr hnt hG L a w hR
 obtain ⟨h1, h2⟩ := h.all
 exact wp_chain (fr := fr) (by rw [hnt.1]; exact hb) hG h2 h1 hR (fun L' a' w' h' => ⟨S', L', h', hQ⟩)
theorem Trip.draw [Globs P] {ops : List Oper} {id : Nat} {es : List Ent} (hmo : P.follows .mixedOrders = true) (h : Exec P ops.toArray ops 0 S es S') (hb : dstsBelow ops.toArray nt = true) (hd : drawOk ops.toArray (es.map Ent.names) = true) (hQ : Q .normal S') : Trip P nt S (.region id ops.toArray true) Q := by
 intro fr hnt hG L a w hR
 obtain ⟨h1, h2⟩ := h.all
 exact wp_chain_draw (fr := fr) hmo (by rw [hnt.1]; exact hb) hG h2 hd h1 hR.drew (fun L' a' w' h' => ⟨S', L', h', hQ⟩)
theorem Trip.weak [Globs P] {c : Code} (hw : Weak nt S S') (h : Trip P nt S' c Q) : Trip P nt S c Q := by
 intro fr hnt hG L a w hR
 obtain ⟨L', hR'⟩ := hw fr hnt L a w hR
 exact h fr hnt hG L' a w hR'
theorem Trip.mono [Globs P] {c : Code} {Q' : Exit → St → Prop} (h : Trip P nt S c Q') (hq : ∀ e S', Q' e S' → Q e S') : Trip P nt S c Q := by
 intro fr hnt hG L a w hR
 exact wp_mono (h fr hnt hG L a w hR) fun e a' w' ⟨S', L', h1, h2⟩ => ⟨S', L', h1, hq e S' h2⟩
@[reducible] def onNormal (N : St → Prop) (Q : Exit → St → Prop) : Exit → St → Prop
 | .normal, S => N S
 | e, S => Q e S
theorem Trip.seq [Globs P] {x y : Code} (h : Trip P nt S x (onNormal (fun S' => Trip P nt S' y Q) Q)) : Trip P nt S (.seq x y) Q := by
 intro fr hnt hG L a w hR
 refine wp_seq (wp_mono (h fr hnt hG L a w hR) ?_)
 rintro e a' w' ⟨S', L', h1, h2⟩
 cases e with
 | normal => exact h2 fr hnt hG L' a' w' h1
 | _ => exact ⟨S', L', h1, h2⟩
theorem Trip.skip [Globs P] (h : Q .normal S) : Trip P nt S .skip Q := fun _ _ _ L _ _ hR => wp_skip ⟨S, L, hR, h⟩
theorem Trip.label [Globs P] {l : Nat} (h : Q .normal S) : Trip P nt S (.label l) Q := fun _ _ _ L _ _ hR => wp_label ⟨S, L, hR, h⟩
theorem Trip.ret [Globs P] (h : Q .ret S) : Trip P nt S .ret Q := fun _ _ _ L _ _ hR => wp_ret ⟨S, L, hR, h⟩
theorem Trip.exit [Globs P] {id : Nat} (h : Q (.exit id) S) : Trip P nt S (.exit id) Q := fun _ _ _ L _ _ hR => wp_exit ⟨S, L, hR, h⟩
theorem Trip.cond [Globs P] {c : Operand} {x y : Code} {b : Bool} (hc : Opd S c (bV b)) (ht : b = true → Trip P nt S x Q) (hf : b = false → Trip P nt S y Q) : Trip P nt S (.cond c x y) Q := by
 intro fr hnt hG L a w hR
 have h1 := (hc.rep hR (fun _ _ => rfl)).inv_v
 exact wp_cond_split h1 (fun e => ht e fr hnt hG L a w hR) (fun e => hf e fr hnt hG L a w hR)
@[reducible] def inBlk (id : Nat) (Q : Exit → St → Prop) : Exit → St → Prop
 | .exit id', S => cond (Nat.beq id' id) (Q .normal S) (Q (.exit id') S)
 | e, S => Q e S
theorem Trip.block [Globs P] {id : Nat} {c : Code} (h : Trip P nt S c (inBlk id Q)) : Trip P nt S (.block id c) Q := by
 intro fr hnt hG L a w hR
 refine wp_block (wp_mono (h fr hnt hG L a w hR) ?_)
 rintro e a' w' ⟨S', L', h1, h2⟩
 cases e with
 | exit id' =>
  simp only [inBlk] at h2
  simp only [Exit.inBlock]
  by_cases hid : id' = id
  ·subst hid
   rw [if_pos rfl]; simp only [Nat.beq_refl, cond_true] at h2; exact ⟨S', L', h1, h2⟩
  ·have : Nat.beq id' id = false := by
    cases hb : Nat.beq id' id with
    | false => rfl
    | true => exact absurd (Nat.eq_of_beq_eq_true hb) hid
   rw [if_neg hid]; rw [this] at h2; exact ⟨S', L', h1, h2⟩
 | _ => exact ⟨S', L', h1, h2⟩
theorem Trip.loop [Globs P] {ι : Type} {c : Code} (st : ι → St) (I : ι → Prop) (μ : ι → Nat) (i₀ : ι) (hI₀ : I i₀) (h₀ : Weak nt S (st i₀))
  (round : ∀ i, I i → Trip P nt (st i) c (onNormal (fun S' => ∃ j, I j ∧ μ j < μ i ∧ Weak nt S' (st j)) Q)) : Trip P nt S (.loop c) Q := by
 intro fr hnt hG L a w hR b k cs
 have key : ∀ n i L a w, I i → μ i = n → R fr (st i) L a w →
   ∃ e a' w', (∃ S' L', R fr S' L' a' w' ∧ Q e S') ∧ Arrives P (lone (b.at a (.code c :: .inLoop c :: k)) cs w) b k cs e a' w' := by
  intro n
  induction n using Nat.strongRecOn with
  | _ n ih =>
   intro i L a w hIi hn hI
   obtain ⟨e, a₁, w₁, ⟨S', L', hR', hq⟩, harr⟩ := round i hIi fr hnt hG L a w hI b (.inLoop c :: k) cs
   cases e with
   | normal =>
    obtain ⟨j, hIj, hlt, hwk⟩ := hq
    obtain ⟨L2, hR2⟩ := hwk fr hnt L' a₁ w₁ hR'
    obtain ⟨e₂, a₂, w₂, hq₂, harr₂⟩ := ih (μ j) (hn ▸ hlt) j L2 a₁ w₁ hIj rfl hR2
    exact ⟨e₂, a₂, w₂, hq₂, .of_steps (Steps.trans harr (.one step_inLoop)) harr₂⟩
   | exit id => exact ⟨_, a₁, w₁, ⟨S', L', hR', hq⟩, .pass (x := .inLoop c) rfl (fun _ _ => .inl (by simp)) harr⟩
   | goto l => exact ⟨_, a₁, w₁, ⟨S', L', hR', hq⟩, .pass (x := .inLoop c) rfl (fun _ _ => .inl (by simp)) harr⟩
   | ret => exact ⟨_, a₁, w₁, ⟨S', L', hR', hq⟩, .pass (x := .inLoop c) rfl (fun _ _ => .inl (by simp)) harr⟩
   | panic ch => exact ⟨_, a₁, w₁, ⟨S', L', hR', hq⟩, .pass (x := .inLoop c) rfl (fun _ _ => .inl (by simp)) harr⟩
   | outgrown => exact ⟨_, a₁, w₁, ⟨S', L', hR', hq⟩, .pass (x := .inLoop c) rfl (fun _ _ => .inl (by simp)) harr⟩
 obtain ⟨L₀, hR₀⟩ := h₀ fr hnt L a w hR
 obtain ⟨e, a', w', hq, harr⟩ := key _ i₀ L₀ a w hI₀ rfl hR₀
 exact ⟨e, a', w', hq, .of_steps (.one step_loop) harr⟩
end
end Go.Sym
