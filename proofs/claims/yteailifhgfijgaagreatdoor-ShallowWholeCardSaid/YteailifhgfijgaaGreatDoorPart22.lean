/- A part of the proof: SymZG, SymZH, SymZI, SymZJ, SymZK. -/
import Derived.Sort.Grow
import Derived.Sort.EncStr
import Derived.Test.YteailifhgfijgaaGreatDoorPart21
import Derived.Scope
import Derived.KernelRfl
set_option linter.unusedVariables false
set_option linter.unusedSimpArgs false
namespace Go.Sym
open Go.RowKit
theorem rows_of {w : World} {F : Nat → Prop} {b : Nat} (hF : ¬ F b) {α : Type} (f : α → PV) (v : α → Value) (hf : ∀ x, (f x).cells = [f x]) (hr : ∀ x, Rep w F noL (f x) (v x)) : ∀ (l : List α) (off : Nat), (∀ (j : Nat) x, l[j]? = some x → w.cell? ⟨b, off + j, none⟩ = some (v x)) → Rows w F 1 (l.map f) b off
 | [], off, _ => .nil _ _ _
 | x :: l, off, h => by
  refine .cons (by rw [hf]; rfl) ?_ (rows_of hF f v hf hr l (off + 1) fun j y hy => by rw [show off + 1 + j = off + (j + 1) by omega]; exact h (j + 1) y (by simpa using hy))
  rw [hf]
  exact .cons (by simpa using h 0 x rfl) hF (hr x) (.nil _ _)
theorem Ctr.of_new {P : Program} [Globs P] {f : FuncId} {ps : List PV} {r : PV} {xs : List Value} (hc : callable P f) (hps : ps = xs.map .v)
  (h : ∀ w, Globals P w → Calls P f xs.toArray w fun e w' => ∃ y, e = .returned y ∧ Grown w w' ∧ ∀ F L, (∀ b, w.heap.size ≤ b → ¬ F b) → Rep w' F L r y) : Ctr P f ps [] r [] [] := by
 refine ⟨hc, fun fr w vals h0 hG hM hv => ?_⟩
 subst hps
 have hvals : ∀ (xs vals : List Value), RepL w (fr.F fr.L0) fr.L0 (xs.map .v) vals → vals = xs := by
  intro xs
  induction xs with
  | nil => intro vals h; cases h; rfl
  | cons x r ih => intro vals h; cases h with | cons h1 h2 => rw [h1.inv_v, ih _ h2]
 rw [hvals xs vals hv]
 refine (h w (fun x hx => hM.frame.glob x (hG ▸ hx))).mono ?_
 rintro e w' ⟨y, rfl, hg, hr⟩
 have hno : ∀ n l, fr.L0 n = some l → False := fun n l hn => by
  obtain ⟨ob, hob⟩ := hM.dom n l hn
  simp [named, St.obj, look] at hob
 refine ⟨y, fr.L0, rfl, rfl, ⟨fun n ob hn => ?_, fun n l hn => (hno n l hn).elim, fun n n' l l' b hn => (hno n l hn).elim, fun n l b hn => (hno n l hn).elim, fun n l p hn => (hno n l hn).elim, hM.parLt, hM.xLt, ?_, hM.lext⟩, hr _ _ fun b hb hF => ?_⟩
 ·simp [named, St.obj, look] at hn
 ·exact hM.frame.grow hM.parLt.1 hg.os hg.tape hg.output hg.size hg.old
 ·rcases hF with hF | ⟨o, l, h1, h2⟩
  ·have := hM.xLt b hF; rw [h0] at this; omega
  ·exact hno o l h1
theorem cells_s (l : List (List UInt8)) : cellsOf (l.map fun s => sV s) = l.map fun s => sV s := by
 induction l with
 | nil => rfl
 | cons b r ih => simp only [List.map_cons, cellsOf, List.flatMap_cons, PV.cells] at ih ⊢; rw [ih]; rfl
theorem Ctr.of_sort {P : Program} [Globs P] {f : FuncId} {n : Nat} {nl : Bool} {l l2 : List (List UInt8)} (hc : callable P f) (hn : n = l.length) (hlen : l2.length = l.length) (hnil : l = [] → l2 = [])
  (h0 : ∀ w, Calls P f #[.slice none 0 0] w fun e w' => e = .returned (.tuple #[]) ∧ w' = w)
  (h : ∀ (w : World) (blk off cap : Nat), Go.Sort.Holds Go.Proofs.encStr w blk off l.toArray → blk < w.heap.size → Calls P f #[.slice (some ⟨blk, off, none⟩) l.length cap] w fun e w' => e = .returned (.tuple #[]) ∧ ∃ n os, w' = Go.Sort.grow (Go.Sort.putRow Go.Proofs.encStr (Go.Sort.ahead w n) blk off l2.toArray) os) :
  Ctr P f [.osl PN 0 n n] [.arr 1 nl (l.map fun s => sV s)] (.tup []) [.arr 1 nl (l2.map fun s => sV s)] [] := by
 subst hn
 refine ⟨hc, fun fr w vals h00 hG hM hv => ?_⟩
 cases hv with
 | cons hv1 hv2 =>
 cases hv2
 obtain ⟨lc, h1, h2⟩ := hM.objs PN (.arr 1 nl (l.map fun s => sV s)) (by simp [named, St.obj, look_cons])
 cases lc with
 | arr base n' cap sz' =>
  obtain ⟨rfl, rfl, k3, rfl, k5, k6⟩ := h2
  have hmapl : (l.map fun s => sV s).length = l.length := by simp
  cases hv1 with
  | osl q1 q2 q3 =>
  rw [h1] at q1; cases q1
  obtain ⟨_, q5⟩ := q2.2 (by simp)
  have hno : ∀ k lk, fr.L0 k = some lk → k = PN := fun k lk hk => by
   obtain ⟨ob, hob⟩ := hM.dom k lk hk
   simp only [named, St.obj, look_cons, look] at hob
   split at hob
   ·rename_i e; exact e.symm
   ·simp at hob
  have hM2 : ∀ w' : World, (∀ k, fr.L0 k = some (.arr base (l.map fun s => sV s).length cap 1) → True) → R fr ⟨[], named PN [.arr 1 base.isNone (l.map fun s => sV s)]⟩ fr.L0 ({ tmps := Array.replicate fr.nt undef, defers := [] } : Act) w := fun _ _ => ⟨hM, by simp, rfl, fun t p hp => by simp [St.get, look] at hp⟩
  have hR := hM2 w fun _ _ => trivial
  cases base with
  | none =>
   subst q5
   have hl0 : l.length = 0 := by simp at k3; omega
   have hl : l = [] := List.length_eq_zero_iff.1 hl0
   subst hl
   have hl2 := hnil rfl
   subst hl2
   refine (h0 w).mono ?_
   rintro e w' ⟨rfl, rfl⟩
   exact ⟨_, _, rfl, rfl, hM.eqv ⟨fun _ => rfl, fun k => by simp [named]⟩, .tup (.nil _)⟩
  | some bo =>
   obtain ⟨b, off⟩ := bo
   obtain ⟨qo, cc, rfl, _, _, q8, q9⟩ := q5
   have hqo : qo = off := by simpa using q8 rfl
   subst hqo
   obtain ⟨k6, k7⟩ := k6
   rw [cells_s] at k6
   have hcell : ∀ (j : Nat) s, l[j]? = some s → w.cell? ⟨b, qo + j, none⟩ = some (.string ⟨⟨s⟩⟩) ∧ w.frozen? ⟨b, qo + j, none⟩ = false := fun j s hj => by
    obtain ⟨x, m1, m2, m3⟩ := k6 j (sV s) (by rw [List.getElem?_map, hj]; rfl)
    rw [m3.inv_v] at m1
    exact ⟨m1, m2⟩
   have hplace := hM.place PN _ b h1 rfl
   have hblt : b < w.heap.size := by
    rcases hplace.2 with hp | ⟨p, hp, hpr⟩
    ·exact hp.2
    ·have := blk_of_range hpr
     simp [Loc.blk] at this
     have h3 := hM.parLt.1 p hp
     rw [h00] at h3
     omega
   have hkind := hM.kind PN _ (b, qo, cap * 1) h1 rfl
   refine (h w b qo cc (fun j hj => ?_) hblt).mono ?_
   ·have hj' : j < l.length := by simpa using hj
    have := hcell j l[j] (List.getElem?_eq_getElem hj')
    rw [getElem!_pos _ j hj]
    simpa [Go.Proofs.encStr] using this
   rintro e w' ⟨rfl, m, os, rfl⟩
   obtain ⟨c, ety, f, hcb, hcf⟩ := hkind.cells (fun b => ⟨fun h => by (cases h), fun h => by (cases h)⟩)
   have hcb : w.heap[b]? = some (.cells c ety f) := hcb
   have hsz : (Go.Sort.putRow Go.Proofs.encStr (Go.Sort.ahead w m) b qo l2.toArray).heap.size = w.heap.size := by simp [Go.Sort.putRow, Go.Sort.mapBlock, Go.Sort.ahead]
   have hbk : (Go.Sort.putRow Go.Proofs.encStr (Go.Sort.ahead w m) b qo l2.toArray).heap[b]? = some (.cells (Go.Sort.putCells Go.Proofs.encStr qo l2.toArray c) ety f) := by
    simp [Go.Sort.putRow, Go.Sort.mapBlock, Go.Sort.ahead, hcb, Array.getElem?_modify, Go.Sort.onCells]
   have hoth : ∀ k, k ≠ b → (Go.Sort.putRow Go.Proofs.encStr (Go.Sort.ahead w m) b qo l2.toArray).heap[k]? = w.heap[k]? := fun k hk => by
    simp [-Array.getElem?_eq_getElem, Go.Sort.putRow, Go.Sort.mapBlock, Go.Sort.ahead, Array.getElem?_modify, Ne.symm hk]
   generalize hw1 : Go.Sort.putRow Go.Proofs.encStr (Go.Sort.ahead w m) b qo l2.toArray = w1 at *
   have hw1o : w1.os = w.os ∧ w1.tape = w.tape ∧ w1.output = w.output := by subst hw1; exact ⟨rfl, rfl, rfl⟩
   have hgs : ∀ k, k < w1.heap.size → (Go.Sort.grow w1 os).heap[k]? = w1.heap[k]? := fun k hk => by simp [Go.Sort.grow, Array.getElem?_append, hk]
   have hgsz : w1.heap.size ≤ (Go.Sort.grow w1 os).heap.size := by simp [Go.Sort.grow]
   have hput : ∀ j : Nat, j < c.size → (Go.Sort.putCells Go.Proofs.encStr qo l2.toArray c)[j]? = if qo ≤ j ∧ j < qo + l2.length then some (Go.Proofs.encStr l2[j - qo]!) else c[j]? := fun j hj => by
    simp only [Go.Sort.putCells, Array.getElem?_mapIdx, Array.getElem?_eq_getElem hj, Option.map_some, List.size_toArray]
    split
    ·simp
    ·rfl
   have htouch : Touch w w1 b qo (cap * 1) := by
    refine ⟨hw1o.1, hw1o.2.1, hw1o.2.2, hsz, hoth, fun c0 e0 f0 hc0 => ?_, fun hn => absurd hcb (hn _ _ _)⟩
    rw [hcb] at hc0; cases hc0
    refine ⟨_, hbk, by simp [Go.Sort.putCells], fun j hj => ?_⟩
    by_cases hjc : j < c.size
    ·rw [hput j hjc, if_neg (by have : l2.length ≤ cap := by rw [hlen]; simpa using k3
                                omega)]
    ·rw [Array.getElem?_eq_none (by simp [Go.Sort.putCells]; omega), Array.getElem?_eq_none (by omega)]
   have hF1 : Frame0 fr w1 := by
    refine hM.frame.touch htouch ?_ ?_
    ·rcases hplace.2 with hp | ⟨p, hp, hpr⟩
     ·exact .inl hp.1
     ·cases hpr; exact .inr hp
    ·intro p hp hpb
     rcases hplace.2 with hp2 | ⟨p', hp', hpr⟩
     ·have := hM.parLt.1 p hp; omega
     ·cases hpr; exact hM.parLt.2 p hp _ hp' hpb
   have hF2 : Frame0 fr (Go.Sort.grow w1 os) := hF1.grow hM.parLt.1 rfl rfl rfl hgsz hgs
   have hcell2 : ∀ (k o : Nat), k < w1.heap.size → (Go.Sort.grow w1 os).cell? ⟨k, o, none⟩ = w1.cell? ⟨k, o, none⟩ := fun k o hk => World.cell?_of_block (w := w1) (hgs k hk)
   have hfr2 : ∀ (k o : Nat), k < w1.heap.size → (Go.Sort.grow w1 os).frozen? ⟨k, o, none⟩ = w1.frozen? ⟨k, o, none⟩ := fun k o hk => World.frozen?_of_block (w := w1) (hgs k hk)
   have hbl1 : b < w1.heap.size := by omega
   have hat : ∀ k, w1.cell? ⟨b, k, none⟩ = (Go.Sort.putCells Go.Proofs.encStr qo l2.toArray c)[k]? := fun k => by simp [World.cell?, hbk]
   have hcap : l.length ≤ cap := by simpa using k3
   have hcsz : ∀ j, j < cap * 1 → qo + j < c.size := fun j hj => by
    obtain ⟨x, m1, _⟩ := k7 j hj
    simp only [World.cell?, hcb] at m1
    exact (Array.getElem?_eq_some_iff.1 m1).1
   obtain ⟨g1, _, _⟩ := R.step' hR PN (.arr 1 false (l2.map fun s => sV s)) (.arr (some (b, qo)) (l.map fun s => sV s).length cap 1) hF2 (by omega) (fun k hk hne => by
     have hkb : k ≠ b := by rintro rfl; exact hne _ h1 rfl
     rw [hgs k (by omega)]; exact hoth k hkb) (fun l0 h => by rw [h1] at h; cases h; exact Loc.le_refl _)
    (fun b' hb' => .inl ⟨_, h1, hb', rfl⟩) (fun p hp => by
     simp [Loc.range] at hp; subst hp
     refine .inl ⟨_, _, _, by rw [hgs b hbl1]; exact hbk, ?_⟩
     have : (Go.Sort.putCells Go.Proofs.encStr qo l2.toArray c).size = c.size := by simp [Go.Sort.putCells]
     rw [this]; exact hcf)
    (fun hext hlx => by
     refine ⟨rfl, by simp [hlen], k3, rfl, fun e he => by obtain ⟨s, _, rfl⟩ := List.mem_map.1 he; rfl, fun j p hj => ?_, fun j hj => ?_⟩
     ·rw [cells_s, List.getElem?_map] at hj
      cases hs : l2[j]? with
      | none => rw [hs] at hj; simp at hj
      | some s =>
       rw [hs] at hj; simp at hj; subst hj
       have hjl : j < l2.length := (List.getElem?_eq_some_iff.1 hs).1
       have hjc : qo + j < c.size := hcsz j (by omega)
       refine ⟨.string ⟨⟨s⟩⟩, ?_, ?_, .v _ _⟩
       ·rw [hcell2 b _ hbl1]
        rw [hat, hput _ hjc, if_pos ⟨by omega, by omega⟩, show qo + j - qo = j by omega, getElem!_pos l2 j hjl]
        have := (List.getElem?_eq_some_iff.1 hs).2
        exact this ▸ rfl
       ·rw [hfr2 b _ hbl1, htouch.frozen]
        obtain ⟨_, _, m2⟩ := k7 j (by omega)
        exact m2
     ·rw [hcell2 b _ hbl1, hfr2 b _ hbl1, htouch.frozen]
      obtain ⟨_, _, m2⟩ := k7 j hj
      have hjc := hcsz j hj
      refine ⟨(Go.Sort.putCells Go.Proofs.encStr qo l2.toArray c)[qo + j]'(by simp [Go.Sort.putCells]; omega), ?_, m2⟩
      rw [hat]
      exact Array.getElem?_eq_getElem _)
   refine ⟨_, _, rfl, rfl, g1.mem.eqv ⟨fun _ => rfl, fun k => ?_⟩, .tup (.nil _)⟩
   rw [St.obj_upd]
   show (look [(PN, _)] k).or (look [(PN, _)] k) = look [(PN, _)] k
   by_cases hk : PN = k
   ·rw [look_one, look_one, look_one, if_pos hk, if_pos hk, if_pos hk]; rfl
   ·rw [look_one, look_one, look_one, if_neg hk, if_neg hk, if_neg hk]; rfl
 | box => exact h2.elim
 | gone => exact h2.elim
 | map => exact h2.elim
 | iter => exact h2.elim
theorem Ret3 {T : Tbl} {S : St} {rv : List ResultVar} {p q o r t u : PV} (B : List Nat) (h : ResV T S rv [p, q, o]) (hB : B.all (fun o => Nat.blt o PN && !([] : List Nat).contains o) = true) (hc : ConvP S [] B p r) (hd : ConvP S [] B q t) (he : ConvP S [] B o u) : Returns T S rv (.tup [r, t, u]) [] [] :=
 ⟨[p, q, o], .tup [p, q, o], [], B, [], [], h, .many, .nil, .nil, rfl, rfl, hB, .nil, .nil, .tup (.cons hc (.cons hd (.cons he .nil)))⟩
end Go.Sym
namespace Go.Sym
open Go.RowKit
section
variable {P : Program} {T : Tbl} {fr : Fr} {S S' : St} {L : LMap} {a : Act} {w : World} {γ : Bool}
variable {dst : Option Tmp} {ty : Nat} {pos : String} {aft : Array Edge} {g : Option (Nat × Bool)}
theorem und_iface (hT : TOk P T) {t : TypeId} {ti : TI} (h : look T t = some ti) (hd : ti.d = .iface) : ∃ ms, P.underlying t = some (.interface ms) := by
 obtain ⟨info, desc, _, h2, h3, _⟩ := hT.get h
 rw [hd] at h3
 cases desc <;> simp [TD.of] at h3
 exact ⟨_, h2⟩
theorem equalIn_nilI {t : TypeId} {ms : Array (String × TypeId)} (h : P.underlying t = some (.interface ms)) (d : Nat) : (Op.equalIn (d + 1) t .nilIface .nilIface).run P w = .ok true w := by
 simp [Op.equalIn, run_underlying h]
theorem F_eqNil [Globs P] (hT : TOk P T) (hγ : γ = true) {t t' : TypeId} {x : Operand} {ti : TI} (hx : OpdO γ S x (.v .nilIface)) (hl : look T t = some ti) (hd : ti.d = .iface) :
  FStep P ⟨dst, .binOp .eql t x (.const .nilIface) t', ty, pos, aft, g⟩ S [] ⟨bV true, []⟩ := by
 refine FStep.val fun fr S' L a w ht hn hR => ?_
 have h1 := (hx.rep hγ hR (ht x (by simp [Op.operands]))).inv_v
 obtain ⟨ms, hu⟩ := und_iface hT hl hd
 refine ⟨.bool true, ?_, .v _ _⟩
 have he := run_eql_of (P := P) (w := w) (t := t) (x := .nilIface) (y := .nilIface) (by rfl) (equalIn_nilI hu 9999)
 have h2 : a.eval (.const .nilIface) = .nilIface := rfl
 simp only [execOp, Sem.run_bind, h1, h2, eqGuard]
 simp [he]
end
end Go.Sym
namespace Go.Sym
open Go.RowKit
@[reducible] def noGo (Q : Exit → St → Prop) : Exit → St → Prop
 | .goto _, _ => False
 | e, S => Q e S
theorem Trip.scope {P : Program} [Globs P] {nt : Nat} {S : St} {Q : Exit → St → Prop} {c : Code} (h : Trip P nt S c (noGo Q)) : Trip P nt S (.scope c) Q := by
 intro fr hnt hG L a w hR
 refine wp_scope_straight (wp_mono (h fr hnt hG L a w hR) ?_)
 rintro e a' w' ⟨S', L', h1, h2⟩
 cases e with
 | goto l => exact h2.elim
 | _ => exact ⟨S', L', h1, h2⟩
inductive ShrT (S : St) (σ : List (Nat × Nat)) (o m n : Nat) : List (Nat × PV) → Prop
 | nil : ShrT S σ o m n []
 | osl {t : Nat} {r : List (Nat × PV)} : S.get t = some (.osl o 0 m n) → ShrT S σ o m n r → ShrT S σ o m n ((t, .osl o 0 m m) :: r)
 | mref {t k : Nat} {r : List (Nat × PV)} : S.get t = some (.mref k) → look σ k = some k → ShrT S σ o m n r → ShrT S σ o m n ((t, .mref k) :: r)
 | cons {t : Nat} {p q : PV} {r : List (Nat × PV)} : S.get t = some q → ConvP S σ [] q p → ShrT S σ o m n r → ShrT S σ o m n ((t, p) :: r)
theorem ShrT.get {S : St} {σ : List (Nat × Nat)} {o m n : Nat} : ∀ {l : List (Nat × PV)}, ShrT S σ o m n l → ∀ t p, (t, p) ∈ l → ∃ q, S.get t = some q ∧ ((q = .osl o 0 m n ∧ p = .osl o 0 m m) ∨ (∃ k, q = .mref k ∧ p = .mref k ∧ look σ k = some k) ∨ ConvP S σ [] q p)
 | _, .nil, t, p, h => by simp at h
 | _, .osl h1 h3, t, p, h => by
  rcases List.mem_cons.1 h with h | h
  ·cases h; exact ⟨_, h1, .inl ⟨rfl, rfl⟩⟩
  ·exact h3.get t p h
 | _, .mref h1 h2 h3, t, p, h => by
  rcases List.mem_cons.1 h with h | h
  ·cases h; exact ⟨_, h1, .inr (.inl ⟨_, rfl, rfl, h2⟩)⟩
  ·exact h3.get t p h
 | _, .cons h1 h2 h3, t, p, h => by
  rcases List.mem_cons.1 h with h | h
  ·cases h; exact ⟨_, h1, .inr (.inr h2)⟩
  ·exact h3.get t p h
section
variable {S : St}
theorem Weak.shrink {nt : Nat} (o sz m : Nat) {nl : Bool} {es : List PV} {t' : List (Nat × PV)} {o' : List (Nat × SObj)} (hobj : S.obj o = some (.arr sz nl es)) (hm : Side (m ≤ es.length)) (hes : Side (plainL (es.take m) = true)) (hpn : Nat.blt o PN = true)
  (hp : S.o.all (fun x => Nat.blt x.1 PN || Nat.beq x.1 o || (o'.map (·.1)).contains x.1) = true) (hno : (o'.map (·.1)).contains o = false)
  (ht : ShrT S (idσ (o'.map (·.1))) o m es.length t') (ho : TurnO S (idσ (o'.map (·.1))) [] o') : Weak nt S ⟨t', (o, .arr sz nl (es.take m)) :: o'⟩ := by
 intro fr hnt L a w hR
 have hM := hR.mem
 have hm' : m ≤ es.length := hm
 have htk : (es.take m).length = m := by rw [List.length_take]; omega
 obtain ⟨base, cap, hl0, hcap, hnil, hlen, hcells⟩ := hR.arr hobj
 let ns := o'.map (·.1)
 let l1 : Loc := .arr base m cap sz
 let L' : LMap := fun n => if n = o then some l1 else if ns.contains n then L n else none
 have hLo : L' o = some l1 := by simp [L']
 have hL : ∀ n, ns.contains n = true → ∀ l, L n = some l → L' n = some l := fun n hn l hl => by
  have hne : n ≠ o := by rintro rfl; rw [show ns.contains n = false from hno] at hn; simp at hn
  simp only [L', if_neg hne, hn, if_true]; exact hl
 have hL2 : ∀ n l, L' n = some l → (n = o ∧ l = l1) ∨ (n ≠ o ∧ L n = some l ∧ ns.contains n = true) := fun n l h => by
  simp only [L'] at h
  split at h
  ·rename_i e; simp at h; exact .inl ⟨e, h.symm⟩
  ·rename_i e
   split at h
   ·rename_i hc; exact .inr ⟨e, h, hc⟩
   ·simp at h
 have hblk : l1.blk = (Loc.arr base es.length cap sz).blk := by cases base <;> rfl
 have hrng : l1.range = (Loc.arr base es.length cap sz).range := by cases base <;> rfl
 have hL3 : ∀ n l b, L' n = some l → l.blk = some b → ∃ l0, L n = some l0 ∧ l0.blk = some b := fun n l b h hb => by
  rcases hL2 n l h with ⟨rfl, rfl⟩ | ⟨_, h1, _⟩
  ·exact ⟨_, hl0, hblk ▸ hb⟩
  ·exact ⟨_, h1, hb⟩
 have hF : ∀ b, ¬ fr.F L b → ¬ fr.F L' b := fun b hn h => by
  rcases h with h | ⟨n, l, h1, h2⟩
  ·exact hn (.inl h)
  ·obtain ⟨l0, k1, k2⟩ := hL3 n l b h1 h2
   exact hn (.inr ⟨n, l0, k1, k2⟩)
 have hσ : ∀ x y, look (idσ ns) x = some y → ∀ l, L x = some l → L' y = some l := fun x y h l hl => by
  obtain ⟨rfl, h2⟩ := look_idσ h
  exact hL _ (by simpa using h2) l hl
 have hcv := conv_rep_all (L' := L') (F' := fr.F L') hM (σ := idσ ns) (B := []) hF (fun o h => by simp at h) hσ
 have hcv1 := fun {p q} h x => @hcv.1 p q h x
 have hcvL : ∀ {cs ds : List PV}, ConvL S (idσ ns) [] cs ds → ∀ b off, CellsAt w (fr.F L) L cs b off → CellsAt w (fr.F L') L' ds b off := by
  intro cs ds h
  induction ds generalizing cs with
  | nil => intro b off _ j c hj; simp at hj
  | cons d ds ih =>
   cases h with
   | cons g1 g2 =>
    intro b off hc j c hj
    cases j with
    | zero =>
     simp at hj; subst hj
     obtain ⟨x, k1, k2, k3⟩ := hc 0 _ rfl
     exact ⟨x, k1, k2, hcv1 g1 x k3⟩
    | succ j =>
     obtain ⟨x, k1, k2, k3⟩ := ih g2 b (off + 1) (fun j' c' hj' => by
      obtain ⟨y, m1, m2, m3⟩ := hc (j' + 1) c' (by simpa using hj')
      exact ⟨y, by rw [show off + 1 + j' = off + (j' + 1) by omega]; exact m1, by rw [show off + 1 + j' = off + (j' + 1) by omega]; exact m2, m3⟩) j c (by simpa using hj)
     exact ⟨x, by rw [show off + (j + 1) = off + 1 + j by omega]; exact k1, by rw [show off + (j + 1) = off + 1 + j by omega]; exact k2, k3⟩
 have hlift : ∀ {c : PV} {x : Value}, plain c = true → Rep w (fr.F L) L c x → Rep w (fr.F L') L' c x := fun hc hx =>
  (hx.plain hc L').mono (fun b s hx hn => ⟨hx, hF b hn⟩) (LExt.refl _)
 refine ⟨L', ⟨fun n ob hn => ?_, fun n l hn => ?_, fun n n' l l' b hn hn' hb hb' => ?_, fun n l b hn hb => ?_, fun n l b hn hb => ?_, hM.parLt, hM.xLt, hM.frame, fun n l h => ?_⟩, hR.nt, hR.defers, fun t p hp => ?_⟩
 ·have hn' : look ((o, SObj.arr sz nl (es.take m)) :: o') n = some ob := hn
  rw [look_cons] at hn'
  split at hn'
  ·rename_i e; subst e
   simp at hn'; subst hn'
   refine ⟨_, hLo, rfl, htk.symm, by omega, hnil, fun e he => hlen e (List.mem_of_mem_take he), ?_⟩
   cases base with
   | none => exact hcells
   | some bo =>
    refine ⟨fun j c hj => ?_, hcells.2⟩
    have hj2 : (cellsOf es)[j]? = some c := by
     have h0 := cellsOf_take hlen m
     rw [h0, List.getElem?_take] at hj
     split at hj
     ·exact hj
     ·simp at hj
    obtain ⟨x, k1, k2, k3⟩ := hcells.1 j c hj2
    obtain ⟨e, he, hce⟩ := List.mem_flatMap.1 (List.mem_of_getElem? hj)
    exact ⟨x, k1, k2, hlift (plain_cells (plainL_mem hes e he) c hce) k3⟩
  ·rename_i e
   have hmem := look_mem hn'
   have hns : ns.contains n = true := by
    simp only [ns, List.contains_iff_mem, List.mem_map]
    exact ⟨_, hmem, rfl⟩
   obtain ⟨ob', hn2, hcase⟩ := ho.get n ob hmem
   obtain ⟨l, h1, h2⟩ := hM.objs n ob' hn2
   refine ⟨l, hL n hns l h1, ?_⟩
   rcases hcase with ⟨cs, ds, rfl, rfl, hc⟩ | ⟨sz, nl, es, _, rfl, rfl, ⟨rfl, hpl⟩ | ⟨hcv2, hlen2, hds⟩⟩ | ⟨rfl, rfl⟩ | ⟨ks, vs, rfl, rfl, hpl⟩
   ·cases l with
    | box b o' n' => exact ⟨h2.1.trans hc.get.1, hcvL hc _ _ h2.2⟩
    | arr => exact h2.elim
    | gone => exact h2.elim
    | map => exact h2.elim
    | iter => exact h2.elim
   ·cases l with
    | arr base n' cap sz' =>
     cases base with
     | none => exact h2
     | some bo =>
      obtain ⟨k1, k2, k3, k4, k5, k6, k7⟩ := h2
      refine ⟨k1, k2, k3, k4, k5, fun j c hj => ?_, k7⟩
      obtain ⟨x, m1, m2, m3⟩ := k6 j c hj
      obtain ⟨e, he, hce⟩ := List.mem_flatMap.1 (List.mem_of_getElem? hj)
      exact ⟨x, m1, m2, hlift (plain_cells (plainL_mem hpl e he) c hce) m3⟩
    | box => exact h2.elim
    | gone => exact h2.elim
    | map => exact h2.elim
    | iter => exact h2.elim
   ·cases l with
    | arr base n' cap sz' =>
     cases base with
     | none => exact ⟨h2.1, h2.2.1.trans hlen2, h2.2.2.1, h2.2.2.2.1, hds, h2.2.2.2.2.2⟩
     | some bo =>
      obtain ⟨k1, k2, k3, k4, k5, k6, k7⟩ := h2
      exact ⟨k1, k2.trans hlen2, k3, k4, hds, hcvL hcv2 _ _ k6, k7⟩
    | box => exact h2.elim
    | gone => exact h2.elim
    | map => exact h2.elim
    | iter => exact h2.elim
   ·cases l <;> exact h2
   ·cases l with
    | map b =>
     obtain ⟨es, clock, k1, k2, k3, k4, k5⟩ := h2
     exact ⟨es, clock, k1, k2, (rep_plain_all.2 k3 hpl L').mono (fun b s hx hn => ⟨hx, hF b hn⟩) (LExt.refl _), k4, k5⟩
    | _ => exact h2.elim
 ·rcases hL2 n l hn with ⟨rfl, _⟩ | ⟨hne, h1, h2⟩
  ·exact ⟨_, by show look ((n, SObj.arr sz nl (es.take m)) :: o') n = _; rw [look_cons, if_pos rfl]⟩
  ·simp only [ns, List.contains_iff_mem, List.mem_map] at h2
   obtain ⟨⟨k, ob⟩, hmem, rfl⟩ := h2
   obtain ⟨y, hy⟩ := mem_look hmem
   exact ⟨y, by show look ((o, SObj.arr sz nl (es.take m)) :: o') _ = _; rw [look_cons, if_neg (fun h => hne h.symm)]; exact hy⟩
 ·obtain ⟨l0, h1, h2⟩ := hL3 n l b hn hb
  obtain ⟨l0', h1', h2'⟩ := hL3 n' l' b hn' hb'
  exact hM.inj n n' l0 l0' b h1 h1' h2 h2'
 ·rcases hL2 n l hn with ⟨rfl, rfl⟩ | ⟨_, h1, _⟩
  ·rw [hrng]; exact hM.place n _ b hl0 (hblk ▸ hb)
  ·exact hM.place n l b h1 hb
 ·rcases hL2 n l hn with ⟨rfl, rfl⟩ | ⟨_, h1, _⟩
  ·exact (hM.kind n _ b hl0 (hrng ▸ hb)).to rfl (fun h => h) (fun b h => by rcases h with h | h <;> cases h)
  ·exact hM.kind n l b h1 hb
 ·obtain ⟨l', h1, h2⟩ := hM.lext n l h
  obtain ⟨ob, hob⟩ := hM.dom n l' h1
  have hmem := look_mem hob
  have hpn' := hnt.2 n l h
  have hne : n ≠ o := by
   rintro rfl
   rw [Nat.blt_eq] at hpn; omega
  have := (List.all_eq_true.1 hp) _ hmem
  simp only [Bool.or_eq_true] at this
  rcases this with (h3 | h3) | h3
  ·rw [Nat.blt_eq] at h3; omega
  ·exact absurd (Nat.eq_of_beq_eq_true h3) hne
  ·exact ⟨l', hL n h3 l' h1, h2⟩
 ·have hmem := look_mem hp
  obtain ⟨q, g1, g2⟩ := ht.get t p hmem
  obtain ⟨x, h1, h2⟩ := hR.vals t q g1
  refine ⟨x, h1, ?_⟩
  rcases g2 with ⟨rfl, rfl⟩ | ⟨k, rfl, rfl, g2⟩ | g2
  ·cases h2 with
   | osl k1 k2 k3 =>
    rw [hl0] at k1
    cases k1
    refine .osl hLo ⟨Nat.le_refl _, fun _ => ?_⟩ k3
    have := k2.2 rfl
    exact ⟨by omega, this.2⟩
  ·cases h2 with
   | mref k1 k2 k3 => exact .mref (hσ _ _ g2 _ k1) k2 k3
  ·exact hcv1 g2 x h2
end
end Go.Sym
namespace Go.Sym
open Go.RowKit
theorem AdL.refl (o : Nat) : ∀ l : List PV, AdL o l l
 | [] => .nil
 | _ :: l => .cons .same (AdL.refl o l)
theorem AdL.app {o : Nat} : ∀ {a b c d : List PV}, AdL o a b → AdL o c d → AdL o (a ++ c) (b ++ d)
 | _, _, _, _, .nil, h => h
 | _, _, _, _, .cons h1 h2, h => .cons h1 (h2.app h)
theorem ConvL.app {S : St} {σ : List (Nat × Nat)} {B : List Nat} {c d : List PV} (h : ConvL S σ B c d) : ∀ {a b : List PV}, ConvL S σ B a b → ConvL S σ B (a ++ c) (b ++ d)
 | [], b, k => by cases k; exact h
 | _ :: a, b, k => by cases k with | cons h1 h2 => exact .cons h1 (ConvL.app h h2)
theorem cellsOf_app (a b : List PV) : cellsOf (a ++ b) = cellsOf a ++ cellsOf b := List.flatMap_append
theorem cellsOf_one : ∀ {l : List PV}, (∀ x ∈ l, x.cells = [x]) → cellsOf l = l
 | [], _ => rfl
 | x :: l, h => by
  have ih := cellsOf_one (l := l) fun y hy => h y (List.mem_cons_of_mem _ hy)
  simp only [cellsOf, List.flatMap_cons] at ih ⊢
  rw [ih, h x List.mem_cons_self]; rfl
theorem usesOnlyL_app {ns : List Nat} : ∀ {a b : List PV}, usesOnlyL ns a = true → usesOnlyL ns b = true → usesOnlyL ns (a ++ b) = true
 | [], _, _, h => h
 | c :: cs, _, h, k => by simp only [usesOnlyL, Bool.and_eq_true, List.cons_append] at h ⊢; exact ⟨h.1, usesOnlyL_app h.2 k⟩
theorem plainL_rep (n : Nat) (x : PV) (h : plain x = true) : plainL (List.replicate n x) = true := plainL_of fun p hp => by
 rw [(List.mem_replicate.1 hp).2]; exact h
theorem mid_get (A B : List PV) (x : PV) {i : Nat} (h : A.length = i) : (A ++ x :: B)[i]? = some x := by
 subst h; simp
theorem mid_set (A B : List PV) (x y : PV) {i : Nat} (h : A.length = i) : (A ++ x :: B).set i y = A ++ y :: B := by
 subst h; simp
theorem adMid {o : Nat} {A B : List PV} {x y : PV} (hA : ∀ z ∈ A, z.cells = [z]) (hB : ∀ z ∈ B, z.cells = [z]) (hx : x.cells = [x]) (hy : y.cells = [y]) (h : AdP o x y) : AdL o (cellsOf (A ++ x :: B)) (cellsOf (A ++ y :: B)) := by
 rw [cellsOf_app, cellsOf_app]
 refine (AdL.refl o _).app ?_
 show AdL o (x.cells ++ cellsOf B) (y.cells ++ cellsOf B)
 rw [hx, hy]
 exact .cons h (AdL.refl o _)
theorem convMid {S : St} {σ : List (Nat × Nat)} {Bs : List Nat} {A B : List PV} {x y : PV} (hA : plainL A = true) (hB : plainL B = true) (cA : ∀ z ∈ A, z.cells = [z]) (cB : ∀ z ∈ B, z.cells = [z]) (hx : x.cells = [x]) (hy : y.cells = [y]) (h : ConvP S σ Bs x y) : ConvL S σ Bs (cellsOf (A ++ x :: B)) (cellsOf (A ++ y :: B)) := by
 rw [cellsOf_app, cellsOf_app]
 refine ConvL.app ?_ (by rw [cellsOf_one cA]; exact convL_plain hA)
 show ConvL S σ Bs (x.cells ++ cellsOf B) (y.cells ++ cellsOf B)
 rw [hx, hy, cellsOf_one cB]
 exact .cons h (convL_plain hB)
theorem usesMid {ns : List Nat} {A B : List PV} {x : PV} (hA : plainL A = true) (hB : plainL B = true) (cA : ∀ z ∈ A, z.cells = [z]) (cB : ∀ z ∈ B, z.cells = [z]) (hx : x.cells = [x]) (h : usesOnly ns x = true) : usesOnlyL ns (cellsOf (A ++ x :: B)) = true := by
 rw [cellsOf_app, cellsOf_one cA]
 refine usesOnlyL_app (plain_uses_all.2 _ hA) ?_
 show usesOnlyL ns (x.cells ++ cellsOf B) = true
 rw [hx, cellsOf_one cB]
 simp only [List.singleton_append, usesOnlyL, h, Bool.true_and]
 exact plain_uses_all.2 _ hB
theorem lenMid {A B : List PV} {x y : PV} (hA : ∀ z ∈ A, z.cells.length = 1) (hB : ∀ z ∈ B, z.cells.length = 1) (hy : y.cells.length = 1) : (A ++ x :: B).length = (A ++ y :: B).length ∧ ∀ e ∈ A ++ y :: B, e.cells.length = 1 :=
 ⟨by simp, fun e he => by
  rcases List.mem_append.1 he with h | h
  ·exact hA e h
  ·rcases List.mem_cons.1 h with rfl | h
   ·exact hy
   ·exact hB e h⟩
end Go.Sym
namespace Go.Sym
section
variable {P : Program} {T : Tbl} {nt : Nat} {S S' S2 : St} {Q : Exit → St → Prop} {ops : List Oper} {id : Nat} {es : List Ent} {y : Code}
theorem Trip.R [Globs P] (hT : TOk P T) (h : Run P T ops.toArray ops 0 S es S') (hQ : Q .normal S') (hb : dstsBelow ops.toArray nt = true := by exact rfl) : Trip P nt S (.region id ops.toArray false) Q := Trip.reg hT h hb hQ
theorem Trip.r [Globs P] (hT : TOk P T) (hQ : Q .normal S') (h : Run P T ops.toArray ops 0 S es S' := by repeat' (first | exact rfl | constructor)) (hb : dstsBelow ops.toArray nt = true := by exact rfl) : Trip P nt S (.region id ops.toArray false) Q := Trip.reg hT h hb hQ
theorem Trip.sR [Globs P] (hT : TOk P T) (h : Run P T ops.toArray ops 0 S es S') (hQ : Trip P nt S' y Q) (hb : dstsBelow ops.toArray nt = true := by exact rfl) : Trip P nt S (.seq (.region id ops.toArray false) y) Q := Trip.seq (Trip.reg hT h hb hQ)
theorem Trip.sr [Globs P] (hT : TOk P T) (hQ : Trip P nt S' y Q) (h : Run P T ops.toArray ops 0 S es S' := by repeat' (first | exact rfl | constructor)) (hb : dstsBelow ops.toArray nt = true := by exact rfl) : Trip P nt S (.seq (.region id ops.toArray false) y) Q := Trip.seq (Trip.reg hT h hb hQ)
theorem Trip.D [Globs P] (hT : TOk P T) (hmo : P.follows .mixedOrders = true) (h : Run P T ops.toArray ops 0 S es S') (hQ : Q .normal S') (hb : dstsBelow ops.toArray nt = true := by exact rfl) (hd : drawOk ops.toArray (es.map Ent.names) = true := by kernel_rfl) : Trip P nt S (.region id ops.toArray true) Q := Trip.drw hT hmo h hb hd hQ
theorem Trip.sD [Globs P] (hT : TOk P T) (hmo : P.follows .mixedOrders = true) (h : Run P T ops.toArray ops 0 S es S') (hQ : Trip P nt S' y Q) (hb : dstsBelow ops.toArray nt = true := by exact rfl) (hd : drawOk ops.toArray (es.map Ent.names) = true := by kernel_rfl) : Trip P nt S (.seq (.region id ops.toArray true) y) Q := Trip.seq (Trip.drw hT hmo h hb hd hQ)
theorem Trip.rk [Globs P] (S2 : St) (hT : TOk P T) (h : Run P T ops.toArray ops 0 S es S') (hw : Weak nt S' S2) (hQ : Trip P nt S2 y Q) (hb : dstsBelow ops.toArray nt = true := by exact rfl) : Trip P nt S (.seq (.region id ops.toArray false) y) Q := Trip.regk S2 hT h hb hw hQ
theorem Trip.dk [Globs P] (S2 : St) (hT : TOk P T) (hmo : P.follows .mixedOrders = true) (h : Run P T ops.toArray ops 0 S es S') (hw : Weak nt S' S2) (hQ : Trip P nt S2 y Q) (hb : dstsBelow ops.toArray nt = true := by exact rfl) (hd : drawOk ops.toArray (es.map Ent.names) = true := by kernel_rfl) : Trip P nt S (.seq (.region id ops.toArray true) y) Q := Trip.drwk S2 hT hmo h hb hd hw hQ
theorem Weak.kp (hp : S.o.all (fun x => Nat.blt x.1 PN || (S2.o.map (·.1)).contains x.1) = true := by exact rfl) (ht : Kept S S2.t := by repeat' (first | exact rfl | constructor)) (ho : KeptO S S2.o := by repeat' (first | exact rfl | constructor)) (hu : usesT (S2.o.map (·.1)) S2.t = true := by exact rfl) (huo : UsesO (S2.o.map (·.1)) S2.o := by repeat' (first | exact rfl | constructor)) : Weak nt S S2 := Weak.keep hp ht ho hu huo
end
section
variable {T : Tbl} {S : St} {rv : List ResultVar} {p q o r t u : PV}
theorem rt1 (B : List Nat) (h : ResV T S rv [p] := by repeat' (first | exact rfl | constructor)) (hB : B.all (fun o => Nat.blt o PN && !([] : List Nat).contains o) = true := by exact rfl) (hc : ConvP S [] B p r := by repeat' (first | exact rfl | constructor)) : Returns T S rv r [] [] := Ret1 B h hB hc
theorem rt2 (B : List Nat) (h : ResV T S rv [p, q] := by repeat' (first | exact rfl | constructor)) (hB : B.all (fun o => Nat.blt o PN && !([] : List Nat).contains o) = true := by exact rfl) (hc : ConvP S [] B p r := by repeat' (first | exact rfl | constructor)) (hd : ConvP S [] B q t := by repeat' (first | exact rfl | constructor)) : Returns T S rv (.tup [r, t]) [] [] := Ret2 B h hB hc hd
theorem rt3 (B : List Nat) (h : ResV T S rv [p, q, o] := by repeat' (first | exact rfl | constructor)) (hB : B.all (fun o => Nat.blt o PN && !([] : List Nat).contains o) = true := by exact rfl) (hc : ConvP S [] B p r := by repeat' (first | exact rfl | constructor)) (hd : ConvP S [] B q t := by repeat' (first | exact rfl | constructor)) (he : ConvP S [] B o u := by repeat' (first | exact rfl | constructor)) : Returns T S rv (.tup [r, t, u]) [] [] := Ret3 B h hB hc hd he
end
end Go.Sym
