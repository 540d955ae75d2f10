/- A part of the proof: SymZG, Ha. -/
import Derived.Sort.EncStr
import Derived.Test.YtbnnmnbidkpmcaaGreatDoorPart28
import Derived.Lib.SplitLaws
set_option linter.unusedVariables false
set_option linter.unusedSimpArgs false
namespace Go.Sym
open Go.RowKit
theorem rows_of {w : World} {F : Nat → Prop} {b : Nat} (hF : ¬ F b) {α : Type} (f : α → PV) (v : α → Value) (hf : ∀ x, (f x).cells = [f x]) (hr : ∀ x, Rep w F noL (f x) (v x)) : ∀ (l : List α) (off : Nat), (∀ (j : Nat) x, l[j]? = some x → w.cell? ⟨b, off + j, none⟩ = some (v x)) → Rows w F 1 (l.map f) b off
  | [], off, _ => .nil _ _ _
  | x :: l, off, h => by
    refine .cons (by rw [hf]; rfl) ?_ (rows_of hF f v hf hr l (off + 1) fun j y hy => by rw [show off + 1 + j = off + (j + 1) by omega]; exact h (j + 1) y (by simpa using hy))
    rw [hf]
    exact .cons (by simpa using h 0 x rfl) hF (hr x) (.nil _ _)
theorem Ctr.of_new {P : Program} [Globs P] {f : FuncId} {ps : List PV} {r : PV} {xs : List Value} (hc : callable P f) (hps : ps = xs.map .v)
    (h : ∀ w, Globals P w → Calls P f xs.toArray w fun e w' => ∃ y, e = .returned y ∧ Grown w w' ∧ ∀ F L, (∀ b, w.heap.size ≤ b → ¬ F b) → Rep w' F L r y) : Ctr P f ps [] r [] [] := by
  refine ⟨hc, fun fr w vals h0 hG hM hv => ?_⟩
  subst hps
  have hvals : ∀ (xs vals : List Value), RepL w (fr.F fr.L0) fr.L0 (xs.map .v) vals → vals = xs := by
    intro xs
    induction xs with
    | nil => intro vals h; cases h; rfl
    | cons x r ih => intro vals h; cases h with | cons h1 h2 => rw [h1.inv_v, ih _ h2]
  rw [hvals xs vals hv]
  refine (h w (fun x hx => hM.frame.glob x (hG ▸ hx))).mono ?_
  rintro e w' ⟨y, rfl, hg, hr⟩
  have hno : ∀ n l, fr.L0 n = some l → False := fun n l hn => by
    obtain ⟨ob, hob⟩ := hM.dom n l hn
    simp [named, St.obj, look] at hob
  refine ⟨y, fr.L0, rfl, rfl, ⟨fun n ob hn => ?_, fun n l hn => (hno n l hn).elim, fun n n' l l' b hn => (hno n l hn).elim, fun n l b hn => (hno n l hn).elim, fun n l p hn => (hno n l hn).elim, hM.parLt, hM.xLt, ?_, hM.lext⟩, hr _ _ fun b hb hF => ?_⟩
  · simp [named, St.obj, look] at hn
  · exact hM.frame.grow hM.parLt.1 hg.os hg.tape hg.output hg.size hg.old
  · rcases hF with hF | ⟨o, l, h1, h2⟩
    · have := hM.xLt b hF; rw [h0] at this; omega
    · exact hno o l h1
theorem cells_s (l : List (List UInt8)) : cellsOf (l.map fun s => sV s) = l.map fun s => sV s := by
  induction l with
  | nil => rfl
  | cons b r ih => simp only [List.map_cons, cellsOf, List.flatMap_cons, PV.cells] at ih ⊢; rw [ih]; rfl
theorem Ctr.of_sort {P : Program} [Globs P] {f : FuncId} {n : Nat} {nl : Bool} {l l2 : List (List UInt8)} (hc : callable P f) (hn : n = l.length) (hlen : l2.length = l.length) (hnil : l = [] → l2 = [])
    (h0 : ∀ w, Calls P f #[.slice none 0 0] w fun e w' => e = .returned (.tuple #[]) ∧ w' = w)
    (h : ∀ (w : World) (blk off cap : Nat), Go.Sort.Holds Go.Proofs.encStr w blk off l.toArray → blk < w.heap.size → Calls P f #[.slice (some ⟨blk, off, none⟩) l.length cap] w fun e w' => e = .returned (.tuple #[]) ∧ ∃ n os, w' = Go.Sort.grow (Go.Sort.putRow Go.Proofs.encStr (Go.Sort.ahead w n) blk off l2.toArray) os) :
    Ctr P f [.osl PN 0 n n] [.arr 1 nl (l.map fun s => sV s)] (.tup []) [.arr 1 nl (l2.map fun s => sV s)] [] := by
  subst hn
  refine ⟨hc, fun fr w vals h00 hG hM hv => ?_⟩
  cases hv with
  | cons hv1 hv2 =>
  cases hv2
  obtain ⟨lc, h1, h2⟩ := hM.objs PN (.arr 1 nl (l.map fun s => sV s)) (by simp [named, St.obj, look_cons])
  cases lc with
  | arr base n' cap sz' =>
    obtain ⟨rfl, rfl, k3, rfl, k5, k6⟩ := h2
    have hmapl : (l.map fun s => sV s).length = l.length := by simp
    cases hv1 with
    | osl q1 q2 q3 =>
    rw [h1] at q1; cases q1
    obtain ⟨_, q5⟩ := q2.2 (by simp)
    have hno : ∀ k lk, fr.L0 k = some lk → k = PN := fun k lk hk => by
      obtain ⟨ob, hob⟩ := hM.dom k lk hk
      simp only [named, St.obj, look_cons, look] at hob
      split at hob
      · rename_i e; exact e.symm
      · simp at hob
    have hM2 : ∀ w' : World, (∀ k, fr.L0 k = some (.arr base (l.map fun s => sV s).length cap 1) → True) → R fr ⟨[], named PN [.arr 1 base.isNone (l.map fun s => sV s)]⟩ fr.L0 ({ tmps := Array.replicate fr.nt undef, defers := [] } : Act) w := fun _ _ => ⟨hM, by simp, rfl, fun t p hp => by simp [St.get, look] at hp⟩
    have hR := hM2 w fun _ _ => trivial
    cases base with
    | none =>
      subst q5
      have hl0 : l.length = 0 := by simp at k3; omega
      have hl : l = [] := List.length_eq_zero_iff.1 hl0
      subst hl
      have hl2 := hnil rfl
      subst hl2
      refine (h0 w).mono ?_
      rintro e w' ⟨rfl, rfl⟩
      exact ⟨_, _, rfl, rfl, hM.eqv ⟨fun _ => rfl, fun k => by simp [named]⟩, .tup (.nil _)⟩
    | some bo =>
      obtain ⟨b, off⟩ := bo
      obtain ⟨qo, cc, rfl, _, _, q8, q9⟩ := q5
      have hqo : qo = off := by simpa using q8 rfl
      subst hqo
      obtain ⟨k6, k7⟩ := k6
      rw [cells_s] at k6
      have hcell : ∀ (j : Nat) s, l[j]? = some s → w.cell? ⟨b, qo + j, none⟩ = some (.string ⟨⟨s⟩⟩) ∧ w.frozen? ⟨b, qo + j, none⟩ = false := fun j s hj => by
        obtain ⟨x, m1, m2, m3⟩ := k6 j (sV s) (by rw [List.getElem?_map, hj]; rfl)
        rw [m3.inv_v] at m1
        exact ⟨m1, m2⟩
      have hplace := hM.place PN _ b h1 rfl
      have hblt : b < w.heap.size := by
        rcases hplace.2 with hp | ⟨p, hp, hpr⟩
        · exact hp.2
        · have := blk_of_range hpr
          simp [Loc.blk] at this
          have h3 := hM.parLt.1 p hp
          rw [h00] at h3
          omega
      have hkind := hM.kind PN _ (b, qo, cap * 1) h1 rfl
      refine (h w b qo cc (fun j hj => ?_) hblt).mono ?_
      · have hj' : j < l.length := by simpa using hj
        have := hcell j l[j] (List.getElem?_eq_getElem hj')
        rw [getElem!_pos _ j hj]
        simpa [Go.Proofs.encStr] using this
      rintro e w' ⟨rfl, m, os, rfl⟩
      obtain ⟨c, ety, f, hcb, hcf⟩ := hkind
      have hcb : w.heap[b]? = some (.cells c ety f) := hcb
      have hsz : (Go.Sort.putRow Go.Proofs.encStr (Go.Sort.ahead w m) b qo l2.toArray).heap.size = w.heap.size := by simp [Go.Sort.putRow, Go.Sort.mapBlock, Go.Sort.ahead]
      have hbk : (Go.Sort.putRow Go.Proofs.encStr (Go.Sort.ahead w m) b qo l2.toArray).heap[b]? = some (.cells (Go.Sort.putCells Go.Proofs.encStr qo l2.toArray c) ety f) := by
        simp [Go.Sort.putRow, Go.Sort.mapBlock, Go.Sort.ahead, hcb, Array.getElem?_modify, Go.Sort.onCells]
      have hoth : ∀ k, k ≠ b → (Go.Sort.putRow Go.Proofs.encStr (Go.Sort.ahead w m) b qo l2.toArray).heap[k]? = w.heap[k]? := fun k hk => by
        simp [-Array.getElem?_eq_getElem, Go.Sort.putRow, Go.Sort.mapBlock, Go.Sort.ahead, Array.getElem?_modify, Ne.symm hk]
      generalize hw1 : Go.Sort.putRow Go.Proofs.encStr (Go.Sort.ahead w m) b qo l2.toArray = w1 at *
      have hw1o : w1.os = w.os ∧ w1.tape = w.tape ∧ w1.output = w.output := by subst hw1; exact ⟨rfl, rfl, rfl⟩
      have hgs : ∀ k, k < w1.heap.size → (Go.Sort.grow w1 os).heap[k]? = w1.heap[k]? := fun k hk => by simp [Go.Sort.grow, Array.getElem?_append, hk]
      have hgsz : w1.heap.size ≤ (Go.Sort.grow w1 os).heap.size := by simp [Go.Sort.grow]
      have hput : ∀ j : Nat, j < c.size → (Go.Sort.putCells Go.Proofs.encStr qo l2.toArray c)[j]? = if qo ≤ j ∧ j < qo + l2.length then some (Go.Proofs.encStr l2[j - qo]!) else c[j]? := fun j hj => by
        simp only [Go.Sort.putCells, Array.getElem?_mapIdx, Array.getElem?_eq_getElem hj, Option.map_some, List.size_toArray]
        split
        · simp
        · rfl
      have htouch : Touch w w1 b qo (cap * 1) := by
        refine ⟨hw1o.1, hw1o.2.1, hw1o.2.2, hsz, hoth, fun c0 e0 f0 hc0 => ?_, fun hn => absurd hcb (hn _ _ _)⟩
        rw [hcb] at hc0; cases hc0
        refine ⟨_, hbk, by simp [Go.Sort.putCells], fun j hj => ?_⟩
        by_cases hjc : j < c.size
        · rw [hput j hjc, if_neg (by have : l2.length ≤ cap := by rw [hlen]; simpa using k3
                                     omega)]
        · rw [Array.getElem?_eq_none (by simp [Go.Sort.putCells]; omega), Array.getElem?_eq_none (by omega)]
      have hF1 : Frame0 fr w1 := by
        refine hM.frame.touch htouch ?_ ?_
        · rcases hplace.2 with hp | ⟨p, hp, hpr⟩
          · exact .inl hp.1
          · cases hpr; exact .inr hp
        · intro p hp hpb
          rcases hplace.2 with hp2 | ⟨p', hp', hpr⟩
          · have := hM.parLt.1 p hp; omega
          · cases hpr; exact hM.parLt.2 p hp _ hp' hpb
      have hF2 : Frame0 fr (Go.Sort.grow w1 os) := hF1.grow hM.parLt.1 rfl rfl rfl hgsz hgs
      have hcell2 : ∀ (k o : Nat), k < w1.heap.size → (Go.Sort.grow w1 os).cell? ⟨k, o, none⟩ = w1.cell? ⟨k, o, none⟩ := fun k o hk => World.cell?_of_block (w := w1) (hgs k hk)
      have hfr2 : ∀ (k o : Nat), k < w1.heap.size → (Go.Sort.grow w1 os).frozen? ⟨k, o, none⟩ = w1.frozen? ⟨k, o, none⟩ := fun k o hk => World.frozen?_of_block (w := w1) (hgs k hk)
      have hbl1 : b < w1.heap.size := by omega
      have hat : ∀ k, w1.cell? ⟨b, k, none⟩ = (Go.Sort.putCells Go.Proofs.encStr qo l2.toArray c)[k]? := fun k => by simp [World.cell?, hbk]
      have hcap : l.length ≤ cap := by simpa using k3
      have hcsz : ∀ j, j < cap * 1 → qo + j < c.size := fun j hj => by
        obtain ⟨x, m1, _⟩ := k7 j hj
        simp only [World.cell?, hcb] at m1
        exact (Array.getElem?_eq_some_iff.1 m1).1
      obtain ⟨g1, _, _⟩ := R.step' hR PN (.arr 1 false (l2.map fun s => sV s)) (.arr (some (b, qo)) (l.map fun s => sV s).length cap 1) hF2 (by omega) (fun k hk hne => by
          have hkb : k ≠ b := by rintro rfl; exact hne _ h1 rfl
          rw [hgs k (by omega)]; exact hoth k hkb) (fun l0 h => by rw [h1] at h; cases h; exact Loc.le_refl _)
        (fun b' hb' => .inl ⟨_, h1, hb', rfl⟩) (fun p hp => by
          simp [Loc.range] at hp; subst hp
          refine ⟨_, _, _, by rw [hgs b hbl1]; exact hbk, ?_⟩
          have : (Go.Sort.putCells Go.Proofs.encStr qo l2.toArray c).size = c.size := by simp [Go.Sort.putCells]
          rw [this]; exact hcf)
        (fun hext hlx => by
          refine ⟨rfl, by simp [hlen], k3, rfl, fun e he => by obtain ⟨s, _, rfl⟩ := List.mem_map.1 he; rfl, fun j p hj => ?_, fun j hj => ?_⟩
          · rw [cells_s, List.getElem?_map] at hj
            cases hs : l2[j]? with
            | none => rw [hs] at hj; simp at hj
            | some s =>
              rw [hs] at hj; simp at hj; subst hj
              have hjl : j < l2.length := (List.getElem?_eq_some_iff.1 hs).1
              have hjc : qo + j < c.size := hcsz j (by omega)
              refine ⟨.string ⟨⟨s⟩⟩, ?_, ?_, .v _ _⟩
              · rw [hcell2 b _ hbl1]
                rw [hat, hput _ hjc, if_pos ⟨by omega, by omega⟩, show qo + j - qo = j by omega, getElem!_pos l2 j hjl]
                have := (List.getElem?_eq_some_iff.1 hs).2
                exact this ▸ rfl
              · rw [hfr2 b _ hbl1, htouch.frozen]
                obtain ⟨_, _, m2⟩ := k7 j (by omega)
                exact m2
          · rw [hcell2 b _ hbl1, hfr2 b _ hbl1, htouch.frozen]
            obtain ⟨_, _, m2⟩ := k7 j hj
            have hjc := hcsz j hj
            refine ⟨(Go.Sort.putCells Go.Proofs.encStr qo l2.toArray c)[qo + j]'(by simp [Go.Sort.putCells]; omega), ?_, m2⟩
            rw [hat]
            exact Array.getElem?_eq_getElem _)
      refine ⟨_, _, rfl, rfl, g1.mem.eqv ⟨fun _ => rfl, fun k => ?_⟩, .tup (.nil _)⟩
      rw [St.obj_upd]
      show (look [(PN, _)] k).or (look [(PN, _)] k) = look [(PN, _)] k
      by_cases hk : PN = k
      · rw [look_one, look_one, look_one, if_pos hk, if_pos hk, if_pos hk]; rfl
      · rw [look_one, look_one, look_one, if_neg hk, if_neg hk, if_neg hk]; rfl
  | box => exact h2.elim
  | gone => exact h2.elim
  | map => exact h2.elim
theorem Ret3 {T : Tbl} {S : St} {rv : List ResultVar} {p q o r t u : PV} (B : List Nat) (h : ResV T S rv [p, q, o]) (hB : B.all (fun o => Nat.blt o PN && !([] : List Nat).contains o) = true) (hc : ConvP S [] B p r) (hd : ConvP S [] B q t) (he : ConvP S [] B o u) : Returns T S rv (.tup [r, t, u]) [] [] :=
  ⟨[p, q, o], .tup [p, q, o], [], B, [], [], h, .many, .nil, .nil, rfl, rfl, hB, .nil, .nil, .tup (.cons hc (.cons hd (.cons he .nil)))⟩
end Go.Sym
namespace Go.Proofs.Tryz
open Go Go.Sym Go.Graft Go.RowKit
set_option maxRecDepth 20000
theorem grown_alloc (w : World) (o : Obj) : Go.Sym.Grown w (w.alloc o) := ⟨rfl, rfl, rfl, by simp, fun b hb => Below.heap_alloc _ _ _ hb⟩
theorem sSplit (s : Str) (hs : s.length < 4294967281) : Ctr prog 205 [sV s, sV [47]] [] (.sl false 1 ((splitC 47 s).map fun x => sV x)) [] [] :=
  Ctr.of_new (xs := [.string ⟨⟨s⟩⟩, .string ⟨⟨[47]⟩⟩]) ⟨_, func205, rfl, rfl⟩ rfl fun w hg => by
    obtain ⟨m, hm⟩ := max_at hg
    refine (Tryz.strings_Split ⟨⟨s⟩⟩ ⟨⟨[47]⟩⟩ m w hs hm (by decide)).mono ?_
    rintro e w' ⟨rfl, rfl⟩
    refine ⟨_, rfl, grown_alloc _ _, fun F L hF => ?_⟩
    have h0 := Lib.splitB_all ⟨⟨[47]⟩⟩ (by decide) 0 _ ⟨⟨s⟩⟩ rfl
    have h1 := Lib.splitB_data ⟨⟨[47]⟩⟩ 0 (Lib.countB ⟨⟨s⟩⟩ ⟨⟨[47]⟩⟩) ⟨⟨s⟩⟩
    have h2 : Lib.splitK [47] 0 (Lib.countB ⟨⟨s⟩⟩ ⟨⟨[47]⟩⟩) s = splitC 47 s := split_eq 47 s
    generalize Lib.splitB ⟨⟨[47]⟩⟩ 0 (Lib.countB ⟨⟨s⟩⟩ ⟨⟨[47]⟩⟩) ⟨⟨s⟩⟩ = bs at *
    have h3 : bs.map (·.data.toList) = splitC 47 s := h1.trans h2
    rw [← h0]
    refine .sl (by rw [← h3]; simp) (Nat.le_refl _) (rows_of (hF _ (Nat.le_refl _)) _ (fun x => .string ⟨⟨x⟩⟩) (fun _ => rfl) (fun _ => .v _ _) _ _ fun j x hj => ?_)
    rw [← h3, List.getElem?_map] at hj
    cases hb : bs[j]? with
    | none => rw [hb] at hj; simp at hj
    | some y =>
      rw [hb] at hj
      simp at hj
      subst hj
      have hnew := heap_alloc_new w (.cells (bs.map Value.string).toArray 9)
      simp only [World.cell?, hnew]
      simp [hb]
theorem cPathIs (p : Str) : Ctr prog 180 [sV p] [] (bV (pathOk p)) [] [] := by
  have hpb : pathBad p = (decide (p = []) || decide (255 < (p.length : Int))) := rfl
  refine Ctr.enter tblOk func180 rfl (by decide) rfl (nt := 28) rfl rfl rfl rfl ?_
  refine Trip.seq ?_
  apply Trip.reg tblOk
  · repeat' constructor
  · exact rfl
  refine Trip.seq ?_
  refine Trip.seq ?_
  apply Trip.reg tblOk
  · repeat' (first | exact rfl | ((with_reducible refine Side.mk ?_); first | exact fun h => h | exact fun _ h => congrArg Bool.not h) | constructor)
  · exact rfl
  apply Trip.cond (.tmp rfl)
  · intro h
    have h : pathBad p = true := h
    rw [pathOk_bad h]
    refine Trip.seq ?_
    apply Trip.reg tblOk
    · repeat' constructor
    · exact rfl
    refine Trip.ret ?_
    apply Ret1 []
    · repeat' (first | exact rfl | constructor)
    · exact rfl
    · repeat' (exact cvB (by simp only [List.length_map]))
  intro h
  have hb : pathBad p = false := h
  have hp : p.length ≤ 255 := by
    rw [hpb] at hb
    simp at hb
    omega
  refine Trip.skip ?_
  have cs := sSplit p (by omega)
  have cp := fun x (hx : x ∈ splitC 47 p) => cPart x (by have := splitC_mem_len 47 p x hx; omega)
  have hll := splitC_length 47 p
  have hk1 := fun i => @pathOk_part p i
  have hk2 := pathOk_end (p := p) hb
  generalize splitC 47 p = l at *
  refine Trip.seq ?_
  apply Trip.reg tblOk
  · repeat' (first | exact rfl | (apply Rule.sem; intro hγ; with_reducible apply F_call0 (x := .func 205) (B := []) hγ (hspec := cs)) | ((with_reducible refine Side.mk ?_); exact .inl rfl) | constructor)
  · exact rfl
  refine Trip.seq ?_
  refine Trip.seq ?_
  apply Trip.reg tblOk
  · repeat' (first | exact rfl | constructor)
  · exact rfl
  refine Trip.block ?_
  apply Trip.loop (fun (i : Nat) => ⟨[(3, .sl false 1 (l.map fun x => sV x)), (15, .sl false 1 (l.map fun x => sV x)), (16, iV l.length), (17, iV i)], []⟩) (fun (i : Nat) => i ≤ l.length ∧ ∀ j, j < i → partOk l[j]! = true) (fun (i : Nat) => l.length - i) (0)
  · exact ⟨Nat.zero_le _, fun j hj => absurd hj (by omega)⟩
  · apply Weak.keep
    · exact rfl
    · repeat' (first | exact rfl | (refine vI ?_; first | omega | (simp; done) | (simp; omega) | (simp only [List.length_map] at *; omega)) | constructor)
    · repeat' constructor
    · exact rfl
    · repeat' constructor
  intro i hi
  obtain ⟨hi, hj⟩ := hi
  refine Trip.seq ?_
  apply Trip.reg tblOk
  · repeat' (first | exact rfl | constructor)
  · exact rfl
  refine Trip.seq ?_
  apply Trip.cond (.tmp rfl)
  · intro h
    have h : i < l.length := by simp at h; omega
    have cp := cp _ (bang_mem h)
    refine Trip.skip ?_
    refine Trip.seq ?_
    refine Trip.block ?_
    refine Trip.seq ?_
    apply Trip.reg tblOk
    · repeat' (first | exact rfl | exact idx_map _ _ _ (by show _ < _; first | omega | (simp only [List.length_map] at *; omega)) | ((with_reducible refine Side.mk ?_); (simp only [ln]; first | done | omega)) | constructor)
    · exact rfl
    refine Trip.seq ?_
    apply Trip.reg tblOk
    · repeat' (first | exact rfl | (apply Rule.sem; intro hγ; with_reducible apply F_call0 (x := .func 206) (B := []) hγ (hspec := cp)) | ((with_reducible refine Side.mk ?_); exact .inl rfl) | constructor)
    · exact rfl
    apply Trip.cond (.tmp rfl)
    · intro h2
      rw [hk1 _ h (by simpa using h2)]
      refine Trip.seq ?_
      apply Trip.reg tblOk
      · repeat' constructor
      · exact rfl
      refine Trip.ret ?_
      apply Ret1 []
      · repeat' (first | exact rfl | constructor)
      · exact rfl
      · repeat' (exact cvB (by simp only [List.length_map]))
    intro h2
    have h2 : partOk l[i]! = true := by simpa using h2
    refine Trip.skip ?_
    apply Trip.reg tblOk
    · repeat' (first | exact rfl | ((with_reducible refine Side.mk ?_); omega) | constructor)
    · exact rfl
    refine ⟨i + 1, ?_, ?_, ?_⟩
    · exact ⟨by omega, fun j h3 => (Nat.lt_succ_iff_lt_or_eq.1 h3).elim (hj j) (fun e => e ▸ h2)⟩
    · first | omega | (dsimp only at *; omega)
    · apply Weak.keep
      · exact rfl
      · repeat' (first | exact rfl | constructor)
      · repeat' constructor
      · exact rfl
      · repeat' constructor
  intro h
  have h : i = l.length := by simp at h; omega
  subst h
  refine Trip.exit ?_
  rw [hk2 hj]
  refine Trip.seq ?_
  apply Trip.reg tblOk
  · repeat' (first | exact rfl | constructor)
  · exact rfl
  refine Trip.ret ?_
  apply Ret1 []
  · repeat' (first | exact rfl | constructor)
  · exact rfl
  · repeat' (exact cvB (by simp only [List.length_map]))
theorem cParts6 (p : Str) (hs : p.length ≤ 1000000000000) : Ctr prog 189 [sV p] [] (.sl (decide (p = [])) 1 ((partsOf p).map fun x => sV x)) [] [] := by
  refine Ctr.enter tblOk func189 rfl (by decide) rfl (nt := 33) rfl rfl rfl rfl ?_
  refine Trip.seq ?_
  apply Trip.reg tblOk
  · repeat' constructor
  · exact rfl
  refine Trip.seq ?_
  refine Trip.seq ?_
  apply Trip.reg tblOk
  · repeat' (first | exact rfl | constructor)
  · exact rfl
  apply Trip.cond (.tmp rfl)
  · intro h
    have h : p = [] := by simpa using h
    subst h
    refine Trip.seq ?_
    apply Trip.reg tblOk
    · repeat' constructor
    · exact rfl
    refine Trip.ret ?_
    apply Ret1 []
    · repeat' (first | exact rfl | constructor)
    · exact rfl
    · repeat' constructor
  intro h
  have h : ¬ p = [] := by simpa using h
  rw [decide_eq_false h, partsOf, if_neg h]
  refine Trip.skip ?_
  refine Trip.seq ?_
  apply Trip.reg tblOk
  · repeat' constructor
  · exact rfl
  refine Trip.seq ?_
  apply Trip.reg tblOk
  · repeat' constructor
  · exact rfl
  refine Trip.seq ?_
  refine Trip.seq ?_
  apply Trip.reg tblOk
  · repeat' constructor
  · exact rfl
  refine Trip.block ?_
  apply Trip.loop (fun (x : List Str × Nat × Nat) => ⟨[(0, sV p), (3, .osl 900 0 x.1.length x.1.length), (4, iV x.2.1), (5, iV x.2.2)], [(900, .arr 1 x.1.isEmpty (x.1.map fun x => sV x))]⟩) (fun (x : List Str × Nat × Nat) => Cuts p x.1 x.2.1 x.2.2) (fun (x : List Str × Nat × Nat) => p.length - x.2.2) (([], 0, 0))
  · exact cuts_zero p
  · refine Weak.trans (S2 := ⟨[(0, sV p), (3, nilS), (4, iV 0), (5, iV 0)], []⟩) ?_ ?_
    · apply Weak.keep
      · exact rfl
      · repeat' (first | exact rfl | constructor)
      · repeat' constructor
      · exact rfl
      · repeat' constructor
    · exact Weak.adopt 900 1 rfl rfl (by repeat' (first | exact rfl | constructor)) (by repeat' (first | exact rfl | constructor))
  intro x hx
  obtain ⟨F, a, i⟩ := x
  dsimp only at *
  have hx2 := hx
  obtain ⟨h1, h2, h3, h4⟩ := hx2
  refine Trip.seq ?_
  refine Trip.seq ?_
  apply Trip.reg tblOk
  · repeat' (first | exact rfl | constructor)
  · exact rfl
  apply Trip.cond (.tmp rfl)
  · intro h
    have h : i < p.length := by simp at h; omega
    refine Trip.skip ?_
    refine Trip.seq ?_
    refine Trip.block ?_
    refine Trip.seq ?_
    apply Trip.reg tblOk
    · repeat' (first | exact rfl | ((with_reducible refine Side.mk ?_); omega) | constructor)
    · exact rfl
    apply Trip.cond (.tmp rfl)
    · intro h5
      have h5 : p.getD i 0 = 47 := u8_eq (b := 47) (by simpa using h5)
      have hc := cuts_at hx h h5
      refine Trip.seq ?_
      apply Trip.reg tblOk
      · repeat' (first | exact rfl | ((first | with_reducible refine bok ?_ | with_reducible refine Side.mk ?_); first | omega | (simp only [ln]; first | done | omega)) | constructor)
      · exact rfl
      apply Trip.reg tblOk
      · repeat' (first | exact rfl | ((with_reducible refine Side.mk ?_); omega) | constructor)
      · exact rfl
      apply Trip.reg tblOk
      · repeat' (first | exact rfl | ((with_reducible refine Side.mk ?_); omega) | constructor)
      · exact rfl
      refine ⟨(F ++ [(p.take i).drop a], i + 1, i + 1), ?_, ?_, ?_⟩
      · exact hc
      · first | omega | (dsimp only at *; omega)
      · apply Weak.keep
        · exact rfl
        · repeat' (first | exact rfl | (refine Side.mk (oslE ?_ ?_) <;> (simp only [ln]; first | done | omega)) | constructor)
        · repeat' (first | exact rfl | exact arrF (by simp) (by simp [loOf, hiOf]) | constructor)
        · exact rfl
        · repeat' (first | exact plainL_map _ (fun _ => rfl) _ | constructor)
    intro h5
    have h5 : ¬ p.getD i 0 = 47 := u8_ne (b := 47) (by simpa using h5)
    have hc := cuts_on hx h h5
    refine Trip.skip ?_
    apply Trip.reg tblOk
    · repeat' (first | exact rfl | ((with_reducible refine Side.mk ?_); omega) | constructor)
    · exact rfl
    refine ⟨(F, a, i + 1), ?_, ?_, ?_⟩
    · exact hc
    · first | omega | (dsimp only at *; omega)
    · apply Weak.keep
      · exact rfl
      · repeat' (first | exact rfl | constructor)
      · repeat' (first | exact rfl | constructor)
      · exact rfl
      · repeat' (first | exact plainL_map _ (fun _ => rfl) _ | constructor)
  intro h
  have h : i = p.length := by simp at h; omega
  subst h
  refine Trip.exit ?_
  rw [← cuts_end hx]
  apply Trip.regk ⟨[(2, .osl 900 0 (F ++ [(p.take p.length).drop a]).length (F ++ [(p.take p.length).drop a]).length)], [(900, .arr 1 false ((F ++ [(p.take p.length).drop a]).map fun x => sV x))]⟩ tblOk
  · repeat' (first | exact rfl | ((first | with_reducible refine bokL ?_ | with_reducible refine Side.mk ?_); first | omega | (simp only [ln]; first | done | omega)) | constructor)
  · exact rfl
  · apply Weak.keep
    · exact rfl
    · repeat' (first | exact rfl | (refine Side.mk (oslE ?_ ?_) <;> (simp only [ln]; first | done | omega)) | constructor)
    · repeat' (first | exact rfl | exact arrF (by simp) (by simp [loOf, hiOf]) | constructor)
    · exact rfl
    · repeat' (first | exact plainL_map _ (fun _ => rfl) _ | constructor)
  refine Trip.ret ?_
  apply Ret1 [900]
  · repeat' (first | exact rfl | constructor)
  · exact rfl
  · repeat' (first | exact rfl | exact plainL_map _ (fun _ => rfl) _ | (refine Side.mk ?_; simp only [ln]; first | done | omega) | constructor)
theorem cIs6 (p : Str) (hs : p.length ≤ 1000000000000) : Ctr prog 160 [sV p] [] (bV (pathOk p)) [] [] := by
  have hpb : partsBad p = (decide (((partsOf p).length : Int) < 1) || decide (16 < ((partsOf p).length : Int)) || decide (255 < (p.length : Int))) := rfl
  have c1 := cParts6 p hs
  have hll := partsOf_len p
  have cp : ∀ x, x ∈ partsOf p → Ctr prog 190 [sV x] [] (bV (partOk x)) [] [] := fun x hx => by
    obtain ⟨h1, h2⟩ := partsOf_mem hx
    rw [← h2]
    exact cPart2 x (by omega)
  rw [pathOk_parts]
  generalize partsBad p = b at *
  generalize partsOf p = l at *
  refine Ctr.enter tblOk func160 rfl (by decide) rfl (nt := 32) rfl rfl rfl rfl ?_
  refine Trip.seq ?_
  apply Trip.reg tblOk
  · repeat' constructor
  · exact rfl
  refine Trip.seq ?_
  apply Trip.reg tblOk
  · repeat' (first | exact rfl | (apply Rule.sem; intro hγ; with_reducible apply F_call0 (x := .func 189) (B := []) hγ (hspec := c1)) | ((with_reducible refine Side.mk ?_); exact .inl rfl) | constructor)
  · exact rfl
  refine Trip.seq ?_
  refine Trip.seq ?_
  apply Trip.reg tblOk
  · repeat' (first | exact rfl | ((with_reducible refine Side.mk ?_); first | exact fun h => h | exact fun _ h => congrArg Bool.not h) | constructor)
  · exact rfl
  apply Trip.cond (.tmp rfl)
  · intro h
    have h : b = true := by rw [hpb]; simpa using h
    subst h
    refine Trip.seq ?_
    apply Trip.reg tblOk
    · repeat' constructor
    · exact rfl
    refine Trip.ret ?_
    apply Ret1 []
    · repeat' (first | exact rfl | constructor)
    · exact rfl
    · repeat' constructor
  intro h
  have h : b = false := by rw [hpb]; simpa using h
  rw [h]
  refine Trip.skip ?_
  refine Trip.seq ?_
  refine Trip.seq ?_
  apply Trip.reg tblOk
  · repeat' constructor
  · exact rfl
  refine Trip.block ?_
  apply Trip.loop (fun (i : Nat) => ⟨[(3, .sl (decide (p = [])) 1 (l.map fun x => sV x)), (4, iV i)], []⟩) (fun (i : Nat) => i ≤ l.length ∧ ∀ j, j < i → partOk l[j]! = true) (fun (i : Nat) => l.length - i) (0)
  · exact ⟨Nat.zero_le _, fun j hj => absurd hj (by omega)⟩
  · apply Weak.keep
    · exact rfl
    · repeat' (first | exact rfl | constructor)
    · repeat' constructor
    · exact rfl
    · repeat' constructor
  intro i hi
  obtain ⟨hi, hj⟩ := hi
  refine Trip.seq ?_
  refine Trip.seq ?_
  apply Trip.reg tblOk
  · repeat' (first | exact rfl | constructor)
  · exact rfl
  apply Trip.cond (.tmp rfl)
  · intro h
    have h : i < l.length := by simp at h; omega
    have cp := cp _ (bang_mem h)
    refine Trip.skip ?_
    refine Trip.seq ?_
    refine Trip.block ?_
    refine Trip.seq ?_
    apply Trip.reg tblOk
    · repeat' (first | exact rfl | (apply Rule.sem; intro hγ; with_reducible apply F_call0 (x := .func 190) (B := []) hγ (hspec := cp)) | exact idx_map _ _ _ (by show _ < _; first | omega | (simp only [List.length_map] at *; omega)) | ((with_reducible refine Side.mk ?_); first | exact .inl rfl | (simp only [ln]; first | done | omega)) | constructor)
    · exact rfl
    apply Trip.cond (.tmp rfl)
    · intro h2
      rw [allS_false h (by simpa using h2)]
      refine Trip.seq ?_
      apply Trip.reg tblOk
      · repeat' constructor
      · exact rfl
      refine Trip.ret ?_
      apply Ret1 []
      · repeat' (first | exact rfl | constructor)
      · exact rfl
      · repeat' constructor
    intro h2
    have h2 : partOk l[i]! = true := by simpa using h2
    refine Trip.skip ?_
    apply Trip.reg tblOk
    · repeat' (first | exact rfl | ((with_reducible refine Side.mk ?_); omega) | constructor)
    · exact rfl
    refine ⟨i + 1, ?_, ?_, ?_⟩
    · exact ⟨by omega, fun j h3 => (Nat.lt_succ_iff_lt_or_eq.1 h3).elim (hj j) (fun e => e ▸ h2)⟩
    · first | omega | (dsimp only at *; omega)
    · apply Weak.keep
      · exact rfl
      · repeat' (first | exact rfl | constructor)
      · repeat' constructor
      · exact rfl
      · repeat' constructor
  intro h
  have h : i = l.length := by simp at h; omega
  subst h
  refine Trip.exit ?_
  rw [allS_true hj]
  refine Trip.seq ?_
  apply Trip.reg tblOk
  · repeat' constructor
  · exact rfl
  refine Trip.ret ?_
  apply Ret1 []
  · repeat' (first | exact rfl | constructor)
  · exact rfl
  · repeat' constructor
end Go.Proofs.Tryz
