/- A part of the proof: SymZI, Se. -/
import Derived.Test.YtbnnmnbidkpmcaaGreatDoorPart41
set_option linter.unusedVariables false
set_option linter.unusedSimpArgs false
namespace Go.Sym
open Go.RowKit
@[reducible] def noGo (Q : Exit → St → Prop) : Exit → St → Prop
  | .goto _, _ => False
  | e, S => Q e S
theorem Trip.scope {P : Program} [Globs P] {nt : Nat} {S : St} {Q : Exit → St → Prop} {c : Code} (h : Trip P nt S c (noGo Q)) : Trip P nt S (.scope c) Q := by
  intro fr hnt hG L a w hR
  refine wp_scope_straight (wp_mono (h fr hnt hG L a w hR) ?_)
  rintro e a' w' ⟨S', L', h1, h2⟩
  cases e with
  | goto l => exact h2.elim
  | _ => exact ⟨S', L', h1, h2⟩
inductive ShrT (S : St) (σ : List (Nat × Nat)) (o m n : Nat) : List (Nat × PV) → Prop
  | nil : ShrT S σ o m n []
  | osl {t : Nat} {r : List (Nat × PV)} : S.get t = some (.osl o 0 m n) → ShrT S σ o m n r → ShrT S σ o m n ((t, .osl o 0 m m) :: r)
  | mref {t k : Nat} {r : List (Nat × PV)} : S.get t = some (.mref k) → look σ k = some k → ShrT S σ o m n r → ShrT S σ o m n ((t, .mref k) :: r)
  | cons {t : Nat} {p q : PV} {r : List (Nat × PV)} : S.get t = some q → ConvP S σ [] q p → ShrT S σ o m n r → ShrT S σ o m n ((t, p) :: r)
theorem ShrT.get {S : St} {σ : List (Nat × Nat)} {o m n : Nat} : ∀ {l : List (Nat × PV)}, ShrT S σ o m n l → ∀ t p, (t, p) ∈ l → ∃ q, S.get t = some q ∧ ((q = .osl o 0 m n ∧ p = .osl o 0 m m) ∨ (∃ k, q = .mref k ∧ p = .mref k ∧ look σ k = some k) ∨ ConvP S σ [] q p)
  | _, .nil, t, p, h => by simp at h
  | _, .osl h1 h3, t, p, h => by
    rcases List.mem_cons.1 h with h | h
    · cases h; exact ⟨_, h1, .inl ⟨rfl, rfl⟩⟩
    · exact h3.get t p h
  | _, .mref h1 h2 h3, t, p, h => by
    rcases List.mem_cons.1 h with h | h
    · cases h; exact ⟨_, h1, .inr (.inl ⟨_, rfl, rfl, h2⟩)⟩
    · exact h3.get t p h
  | _, .cons h1 h2 h3, t, p, h => by
    rcases List.mem_cons.1 h with h | h
    · cases h; exact ⟨_, h1, .inr (.inr h2)⟩
    · exact h3.get t p h
section
variable {S : St}
theorem Weak.shrink {nt : Nat} (o sz m : Nat) {nl : Bool} {es : List PV} {t' : List (Nat × PV)} {o' : List (Nat × SObj)} (hobj : S.obj o = some (.arr sz nl es)) (hm : Side (m ≤ es.length)) (hes : Side (plainL (es.take m) = true)) (hpn : Nat.blt o PN = true)
    (hp : S.o.all (fun x => Nat.blt x.1 PN || Nat.beq x.1 o || (o'.map (·.1)).contains x.1) = true) (hno : (o'.map (·.1)).contains o = false)
    (ht : ShrT S (idσ (o'.map (·.1))) o m es.length t') (ho : TurnO S (idσ (o'.map (·.1))) [] o') : Weak nt S ⟨t', (o, .arr sz nl (es.take m)) :: o'⟩ := by
  intro fr hnt L a w hR
  have hM := hR.mem
  have hm' : m ≤ es.length := hm
  have htk : (es.take m).length = m := by rw [List.length_take]; omega
  obtain ⟨base, cap, hl0, hcap, hnil, hlen, hcells⟩ := hR.arr hobj
  let ns := o'.map (·.1)
  let l1 : Loc := .arr base m cap sz
  let L' : LMap := fun n => if n = o then some l1 else if ns.contains n then L n else none
  have hLo : L' o = some l1 := by simp [L']
  have hL : ∀ n, ns.contains n = true → ∀ l, L n = some l → L' n = some l := fun n hn l hl => by
    have hne : n ≠ o := by rintro rfl; rw [show ns.contains n = false from hno] at hn; simp at hn
    simp only [L', if_neg hne, hn, if_true]; exact hl
  have hL2 : ∀ n l, L' n = some l → (n = o ∧ l = l1) ∨ (n ≠ o ∧ L n = some l ∧ ns.contains n = true) := fun n l h => by
    simp only [L'] at h
    split at h
    · rename_i e; simp at h; exact .inl ⟨e, h.symm⟩
    · rename_i e
      split at h
      · rename_i hc; exact .inr ⟨e, h, hc⟩
      · simp at h
  have hblk : l1.blk = (Loc.arr base es.length cap sz).blk := by cases base <;> rfl
  have hrng : l1.range = (Loc.arr base es.length cap sz).range := by cases base <;> rfl
  have hL3 : ∀ n l b, L' n = some l → l.blk = some b → ∃ l0, L n = some l0 ∧ l0.blk = some b := fun n l b h hb => by
    rcases hL2 n l h with ⟨rfl, rfl⟩ | ⟨_, h1, _⟩
    · exact ⟨_, hl0, hblk ▸ hb⟩
    · exact ⟨_, h1, hb⟩
  have hF : ∀ b, ¬ fr.F L b → ¬ fr.F L' b := fun b hn h => by
    rcases h with h | ⟨n, l, h1, h2⟩
    · exact hn (.inl h)
    · obtain ⟨l0, k1, k2⟩ := hL3 n l b h1 h2
      exact hn (.inr ⟨n, l0, k1, k2⟩)
  have hσ : ∀ x y, look (idσ ns) x = some y → ∀ l, L x = some l → L' y = some l := fun x y h l hl => by
    obtain ⟨rfl, h2⟩ := look_idσ h
    exact hL _ (by simpa using h2) l hl
  have hcv := conv_rep_all (L' := L') (F' := fr.F L') hM (σ := idσ ns) (B := []) hF (fun o h => by simp at h) hσ
  have hcv1 := fun {p q} h x => @hcv.1 p q h x
  have hcvL : ∀ {cs ds : List PV}, ConvL S (idσ ns) [] cs ds → ∀ b off, CellsAt w (fr.F L) L cs b off → CellsAt w (fr.F L') L' ds b off := by
    intro cs ds h
    induction ds generalizing cs with
    | nil => intro b off _ j c hj; simp at hj
    | cons d ds ih =>
      cases h with
      | cons g1 g2 =>
        intro b off hc j c hj
        cases j with
        | zero =>
          simp at hj; subst hj
          obtain ⟨x, k1, k2, k3⟩ := hc 0 _ rfl
          exact ⟨x, k1, k2, hcv1 g1 x k3⟩
        | succ j =>
          obtain ⟨x, k1, k2, k3⟩ := ih g2 b (off + 1) (fun j' c' hj' => by
            obtain ⟨y, m1, m2, m3⟩ := hc (j' + 1) c' (by simpa using hj')
            exact ⟨y, by rw [show off + 1 + j' = off + (j' + 1) by omega]; exact m1, by rw [show off + 1 + j' = off + (j' + 1) by omega]; exact m2, m3⟩) j c (by simpa using hj)
          exact ⟨x, by rw [show off + (j + 1) = off + 1 + j by omega]; exact k1, by rw [show off + (j + 1) = off + 1 + j by omega]; exact k2, k3⟩
  have hlift : ∀ {c : PV} {x : Value}, plain c = true → Rep w (fr.F L) L c x → Rep w (fr.F L') L' c x := fun hc hx =>
    (hx.plain hc L').mono (fun b s hx hn => ⟨hx, hF b hn⟩) (LExt.refl _)
  refine ⟨L', ⟨fun n ob hn => ?_, fun n l hn => ?_, fun n n' l l' b hn hn' hb hb' => ?_, fun n l b hn hb => ?_, fun n l b hn hb => ?_, hM.parLt, hM.xLt, hM.frame, fun n l h => ?_⟩, hR.nt, hR.defers, fun t p hp => ?_⟩
  · have hn' : look ((o, SObj.arr sz nl (es.take m)) :: o') n = some ob := hn
    rw [look_cons] at hn'
    split at hn'
    · rename_i e; subst e
      simp at hn'; subst hn'
      refine ⟨_, hLo, rfl, htk.symm, by omega, hnil, fun e he => hlen e (List.mem_of_mem_take he), ?_⟩
      cases base with
      | none => exact hcells
      | some bo =>
        refine ⟨fun j c hj => ?_, hcells.2⟩
        have hj2 : (cellsOf es)[j]? = some c := by
          have h0 := cellsOf_take hlen m
          rw [h0, List.getElem?_take] at hj
          split at hj
          · exact hj
          · simp at hj
        obtain ⟨x, k1, k2, k3⟩ := hcells.1 j c hj2
        obtain ⟨e, he, hce⟩ := List.mem_flatMap.1 (List.mem_of_getElem? hj)
        exact ⟨x, k1, k2, hlift (plain_cells (plainL_mem hes e he) c hce) k3⟩
    · rename_i e
      have hmem := look_mem hn'
      have hns : ns.contains n = true := by
        simp only [ns, List.contains_iff_mem, List.mem_map]
        exact ⟨_, hmem, rfl⟩
      obtain ⟨ob', hn2, hcase⟩ := ho.get n ob hmem
      obtain ⟨l, h1, h2⟩ := hM.objs n ob' hn2
      refine ⟨l, hL n hns l h1, ?_⟩
      rcases hcase with ⟨cs, ds, rfl, rfl, hc⟩ | ⟨sz, nl, es, rfl, rfl, hpl⟩ | ⟨rfl, rfl⟩ | ⟨ks, vs, rfl, rfl, hpl⟩
      · cases l with
        | box b o' n' => exact ⟨h2.1.trans hc.get.1, hcvL hc _ _ h2.2⟩
        | arr => exact h2.elim
        | gone => exact h2.elim
        | map => exact h2.elim
      · cases l with
        | arr base n' cap sz' =>
          cases base with
          | none => exact h2
          | some bo =>
            obtain ⟨k1, k2, k3, k4, k5, k6, k7⟩ := h2
            refine ⟨k1, k2, k3, k4, k5, fun j c hj => ?_, k7⟩
            obtain ⟨x, m1, m2, m3⟩ := k6 j c hj
            obtain ⟨e, he, hce⟩ := List.mem_flatMap.1 (List.mem_of_getElem? hj)
            exact ⟨x, m1, m2, hlift (plain_cells (plainL_mem hpl e he) c hce) m3⟩
        | box => exact h2.elim
        | gone => exact h2.elim
        | map => exact h2.elim
      · cases l <;> exact h2
      · cases l with
        | map b =>
          obtain ⟨es, clock, k1, k2, k3, k4, k5⟩ := h2
          exact ⟨es, clock, k1, k2, (rep_plain_all.2 k3 hpl L').mono (fun b s hx hn => ⟨hx, hF b hn⟩) (LExt.refl _), k4, k5⟩
        | _ => exact h2.elim
  · rcases hL2 n l hn with ⟨rfl, _⟩ | ⟨hne, h1, h2⟩
    · exact ⟨_, by show look ((n, SObj.arr sz nl (es.take m)) :: o') n = _; rw [look_cons, if_pos rfl]⟩
    · simp only [ns, List.contains_iff_mem, List.mem_map] at h2
      obtain ⟨⟨k, ob⟩, hmem, rfl⟩ := h2
      obtain ⟨y, hy⟩ := mem_look hmem
      exact ⟨y, by show look ((o, SObj.arr sz nl (es.take m)) :: o') _ = _; rw [look_cons, if_neg (fun h => hne h.symm)]; exact hy⟩
  · obtain ⟨l0, h1, h2⟩ := hL3 n l b hn hb
    obtain ⟨l0', h1', h2'⟩ := hL3 n' l' b hn' hb'
    exact hM.inj n n' l0 l0' b h1 h1' h2 h2'
  · rcases hL2 n l hn with ⟨rfl, rfl⟩ | ⟨_, h1, _⟩
    · rw [hrng]; exact hM.place n _ b hl0 (hblk ▸ hb)
    · exact hM.place n l b h1 hb
  · rcases hL2 n l hn with ⟨rfl, rfl⟩ | ⟨_, h1, _⟩
    · exact (hM.kind n _ b hl0 (hrng ▸ hb)).to rfl (fun h => h)
    · exact hM.kind n l b h1 hb
  · obtain ⟨l', h1, h2⟩ := hM.lext n l h
    obtain ⟨ob, hob⟩ := hM.dom n l' h1
    have hmem := look_mem hob
    have hpn' := hnt.2 n l h
    have hne : n ≠ o := by
      rintro rfl
      rw [Nat.blt_eq] at hpn; omega
    have := (List.all_eq_true.1 hp) _ hmem
    simp only [Bool.or_eq_true] at this
    rcases this with (h3 | h3) | h3
    · rw [Nat.blt_eq] at h3; omega
    · exact absurd (Nat.eq_of_beq_eq_true h3) hne
    · exact ⟨l', hL n h3 l' h1, h2⟩
  · have hmem := look_mem hp
    obtain ⟨q, g1, g2⟩ := ht.get t p hmem
    obtain ⟨x, h1, h2⟩ := hR.vals t q g1
    refine ⟨x, h1, ?_⟩
    rcases g2 with ⟨rfl, rfl⟩ | ⟨k, rfl, rfl, g2⟩ | g2
    · cases h2 with
      | osl k1 k2 k3 =>
        rw [hl0] at k1
        cases k1
        refine .osl hLo ⟨Nat.le_refl _, fun _ => ?_⟩ k3
        have := k2.2 rfl
        exact ⟨by omega, this.2⟩
    · cases h2 with
      | mref k1 k2 k3 => exact .mref (hσ _ _ g2 _ k1) k2 k3
    · exact hcv1 g2 x h2
end
end Go.Sym
namespace Go.Proofs.Tryz
open Go Go.Sym Go.Graft
set_option maxRecDepth 20000
theorem cGone (nl nc nf : Bool) (l : List It) (cuts fr0 : List Str) (hs : l.length ≤ 1000000) (hc : cuts.length ≤ 1000000000) (hf : fr0.length ≤ 1000000000) (hnf : nf = true → fr0 = []) (H K : List Str) (hR : IsReach l cuts fr0 H K) :
    Ctr prog 56 [stPV nl l, .sl nc 1 (cuts.map fun x => sV x), .sl nf 1 (fr0.map fun x => sV x)] [] (.tup [.sl H.isEmpty 1 (H.map fun x => sV x), .sl K.isEmpty 1 (K.map fun x => sV x)]) [] [] := by
  have hlen := seenN_len cuts
  have hend := fun x => seenN_val cuts x cuts.length (Nat.le_refl _)
  rw [List.take_length] at hend
  have c1 := cCloneS nf (fr0.map fun x => sV x) (by intro h; rw [hnf h]; rfl) (plainL_map _ (fun _ => rfl) _) (cellsOk_map _ (fun _ => rfl) _) (by rw [List.length_map]; omega)
  rw [List.length_map] at c1
  have hW := toCome_le l cuts [] l
  refine Ctr.enter tblOk func56 rfl (by decide) rfl (nt := 77) rfl rfl rfl rfl ?_
  refine Trip.seq ?_
  apply Trip.reg tblOk
  · repeat' (first | exact rfl | constructor)
  · exact rfl
  refine Trip.scope ?_
  refine Trip.seq ?_
  apply Trip.reg tblOk
  · repeat' (first | exact rfl | (apply Rule.sem; intro hγ; with_reducible apply F_makeMap) | constructor)
  · exact rfl
  refine Trip.seq ?_
  refine Trip.seq ?_
  apply Trip.reg tblOk
  · repeat' (first | exact rfl | constructor)
  · exact rfl
  refine Trip.block ?_
  apply Trip.loop (fun (i : Nat) => ⟨[(2, .sl nf 1 (fr0.map fun x => sV x)), (3, .ref 3 0), (6, nilS), (7, nilS), (8, .mref 16), (17, .sl nc 1 (cuts.map fun x => sV x)), (18, iV cuts.length), (19, iV i)], [(3, .box [.sl nl 3 (l.map It.pv)]), (16, .map ((seenN cuts i).1.map strK) ((seenN cuts i).2.map fun b => bV b))]⟩) (fun (i : Nat) => i ≤ cuts.length) (fun (i : Nat) => cuts.length - i) (0)
  · first | omega | (simp; done)
  · apply Weak.keep
    · exact rfl
    · repeat' (first | exact rfl | (refine vI ?_; first | omega | (simp; done) | (simp; omega) | (simp only [List.length_map] at *; omega)) | constructor)
    · repeat' (first | exact rfl | constructor)
    · exact rfl
    · repeat' (first | exact rfl | constructor)
  intro i hi2
  refine Trip.seq ?_
  apply Trip.reg tblOk
  · repeat' (first | exact rfl | constructor)
  · exact rfl
  refine Trip.seq ?_
  apply Trip.cond (.tmp rfl)
  · intro h
    have h : i < cuts.length := by simp at h; omega
    have hlen := hlen i
    have hstep : seenN cuts (i + 1) = (mkeys (seenN cuts i).1 cuts[i]!, mset (seenN cuts i).1 (seenN cuts i).2 cuts[i]! true) := rfl
    clear c1 hend
    generalize hq2 : seenN cuts (i + 1) = q2 at *
    generalize seenN cuts i = q at *
    obtain ⟨ks, bs⟩ := q
    subst hstep
    dsimp only at *
    refine Trip.skip ?_
    refine Trip.seq ?_
    refine Trip.block ?_
    refine Trip.seq ?_
    apply Trip.reg tblOk
    · repeat' (first | exact rfl | exact idx_map _ _ _ (by show _ < _; first | omega | (simp only [List.length_map] at *; omega)) | ((with_reducible refine Side.mk ?_); (simp only [ln]; first | done | omega)) | constructor)
    · exact rfl
    apply Trip.reg tblOk
    · repeat' (first | exact rfl | (apply Rule.sem; intro hγ; with_reducible apply F_mapUpdate (K := strK) (f := bV) tblOk hγ) | exact KeyLaw.str tblOk rfl rfl | ((with_reducible refine Side.mk ?_); omega) | constructor)
    · exact rfl
    apply Trip.reg tblOk
    · repeat' (first | exact rfl | ((with_reducible refine Side.mk ?_); omega) | constructor)
    · exact rfl
    refine ⟨i + 1, ?_, ?_, ?_⟩
    · first | omega | (dsimp only at *; omega)
    · first | omega | (dsimp only at *; omega)
    · apply Weak.keep
      · exact rfl
      · repeat' (first | exact rfl | constructor)
      · repeat' (first | exact rfl | (rw [hq2]; rfl) | constructor)
      · exact rfl
      · repeat' (first | exact rfl | exact plainL_map _ (fun _ => rfl) _ | constructor)
  intro h
  have h : i = cuts.length := by simp at h; omega
  subst h
  refine Trip.exit ?_
  have hlenC := hlen cuts.length
  clear hlen
  generalize seenN cuts cuts.length = q at *
  obtain ⟨kc, bc⟩ := q
  dsimp only at *
  refine Trip.seq ?_
  apply Trip.reg tblOk
  · repeat' (first | exact rfl | (apply Rule.sem; intro hγ; with_reducible apply F_makeMap) | constructor)
  · exact rfl
  refine Trip.seq ?_
  apply Trip.reg tblOk
  · repeat' (first | exact rfl | (apply Rule.sem; intro hγ; with_reducible apply F_call (x := .func 93) (σ := []) (B := []) (news := [900]) hγ (hspec := c1)) | exact plainL_map _ (fun _ => rfl) _ | ((with_reducible refine Side.mk ?_); exact .inl rfl) | constructor)
  · exact rfl
  clear c1
  refine Trip.seq ?_
  refine Trip.label ?_
  refine Trip.seq ?_
  refine Trip.block ?_
  apply Trip.loop (fun (q : List Str × List Str) => ⟨[(3, .ref 3 0), (6, .osl 901 0 (q.1.filter (placed l)).length (q.1.filter (placed l)).length), (7, .osl 902 0 (q.1.filter fun x => !placed l x).length (q.1.filter fun x => !placed l x).length), (8, .mref 16), (11, .mref 26), (12, .osl 900 0 q.2.length q.2.length)], [(901, .arr 1 (q.1.filter (placed l)).isEmpty ((q.1.filter (placed l)).map fun x => sV x)), (902, .arr 1 (q.1.filter fun x => !placed l x).isEmpty ((q.1.filter fun x => !placed l x).map fun x => sV x)), (900, .arr 1 nf (q.2.map fun x => sV x)), (26, .map ((seenL q.1).1.map strK) ((seenL q.1).2.map fun b => bV b)), (16, .map (kc.map strK) (bc.map fun b => bV b)), (3, .box [.sl nl 3 (l.map It.pv)])]⟩) (fun (q : List Str × List Str) => Onway l cuts fr0 q.1 q.2 ∧ (nf = true → q.2 = []) ∧ toCome l cuts q.1 l + q.2.length + q.1.length ≤ 2000000000000) (fun (q : List Str × List Str) => toCome l cuts q.1 l + q.2.length) (([], fr0))
  · exact ⟨Onway.start l cuts fr0, hnf, by dsimp only [List.length_nil]; omega⟩
  · refine Weak.trans (S2 := ⟨[(3, .ref 3 0), (6, nilS), (7, nilS), (8, .mref 16), (11, .mref 26), (12, .osl 900 0 fr0.length fr0.length)], [(900, .arr 1 nf (fr0.map fun x => sV x)), (26, .map [] []), (16, .map (kc.map strK) (bc.map fun b => bV b)), (3, .box [.sl nl 3 (l.map It.pv)])]⟩) ?_ (Weak.trans (S2 := ⟨[(3, .ref 3 0), (6, nilS), (7, .osl 902 0 0 0), (8, .mref 16), (11, .mref 26), (12, .osl 900 0 fr0.length fr0.length)], [(902, .arr 1 true []), (900, .arr 1 nf (fr0.map fun x => sV x)), (26, .map [] []), (16, .map (kc.map strK) (bc.map fun b => bV b)), (3, .box [.sl nl 3 (l.map It.pv)])]⟩) ?_ (Weak.trans (S2 := ⟨[(3, .ref 3 0), (6, .osl 901 0 0 0), (7, .osl 902 0 0 0), (8, .mref 16), (11, .mref 26), (12, .osl 900 0 fr0.length fr0.length)], [(901, .arr 1 true []), (902, .arr 1 true []), (900, .arr 1 nf (fr0.map fun x => sV x)), (26, .map [] []), (16, .map (kc.map strK) (bc.map fun b => bV b)), (3, .box [.sl nl 3 (l.map It.pv)])]⟩) ?_ ?_))
    · apply Weak.keep
      · exact rfl
      · repeat' (first | exact rfl | constructor)
      · repeat' (first | exact rfl | constructor)
      · exact rfl
      · repeat' (first | exact rfl | exact plainL_map _ (fun _ => rfl) _ | constructor)
    · exact Weak.adopt 902 1 rfl rfl (by repeat' (first | exact rfl | constructor)) (by repeat' (first | exact rfl | constructor))
    · exact Weak.adopt 901 1 rfl rfl (by repeat' (first | exact rfl | constructor)) (by repeat' (first | exact rfl | constructor))
    · apply Weak.keep
      · exact rfl
      · repeat' (first | exact rfl | constructor)
      · repeat' (first | exact rfl | constructor)
      · exact rfl
      · repeat' (first | exact rfl | exact plainL_map _ (fun _ => rfl) _ | constructor)
  rintro ⟨met, nx⟩ ⟨hO, hnn, hto⟩
  dsimp only at *
  refine Trip.seq ?_
  refine Trip.seq ?_
  apply Trip.reg tblOk
  · repeat' (first | exact rfl | ((with_reducible refine Side.mk ?_); (simp only [ln]; first | done | omega)) | constructor)
  · exact rfl
  apply Trip.cond (.tmp rfl)
  · intro h
    have h : 0 < nx.length := by simp at h; omega
    have hnf2 : nf = false := by cases nf with | false => rfl | true => rw [hnn rfl] at h; simp at h
    subst hnf2
    clear hnn hnf
    have hx : nx = nx.take (nx.length - 1) ++ [nx[nx.length - 1]!] := by
      rw [getElem!_pos nx _ (by omega)]
      conv => lhs; rw [← List.take_append_drop (nx.length - 1) nx]
      rw [List.drop_eq_getElem_cons (by omega), List.drop_of_length_le (by omega)]
    generalize hX : nx[nx.length - 1]! = X at *
    refine Trip.skip ?_
    refine Trip.block ?_
    have hlm := seenL_len met
    have hvm := seenL_val met X
    generalize hkm : seenL met = q at *
    obtain ⟨km, bm⟩ := q
    dsimp only at *
    have hTl : (met.filter (placed l)).length ≤ met.length := List.length_filter_le _ _
    have hMl : (met.filter fun x => !placed l x).length ≤ met.length := List.length_filter_le _ _
    generalize hTT : met.filter (placed l) = TT at *
    generalize hMM : (met.filter fun x => !placed l x) = MM at *
    apply Trip.regk ⟨[(3, .ref 3 0), (6, .osl 901 0 TT.length TT.length), (7, .osl 902 0 MM.length MM.length), (8, .mref 16), (11, .mref 26), (12, .osl 900 0 nx.length nx.length), (13, sV X)], [(900, .arr 1 false (nx.map fun x => sV x)), (901, .arr 1 TT.isEmpty (TT.map fun x => sV x)), (902, .arr 1 MM.isEmpty (MM.map fun x => sV x)), (26, .map (km.map strK) (bm.map fun b => bV b)), (16, .map (kc.map strK) (bc.map fun b => bV b)), (3, .box [.sl nl 3 (l.map It.pv)])]⟩ tblOk
    · repeat' (first | exact rfl | exact idx_map _ _ _ (by show _ < _; first | omega | (simp only [List.length_map] at *; omega)) | ((with_reducible refine Side.mk ?_); first | omega | (simp only [ln]; first | done | omega)) | constructor)
    · exact rfl
    · apply Weak.keep
      · exact rfl
      · repeat' (first | exact rfl | exact vT (by rw [← hX]; congr 1; omega) | constructor)
      · repeat' (first | exact rfl | constructor)
      · exact rfl
      · repeat' (first | exact rfl | exact plainL_map _ (fun _ => rfl) _ | constructor)
    apply Trip.regk ⟨[(3, .ref 3 0), (6, .osl 901 0 TT.length TT.length), (7, .osl 902 0 MM.length MM.length), (8, .mref 16), (11, .mref 26), (12, .osl 900 0 (nx.length - 1) (nx.map fun x => sV x).length), (13, sV X)], [(900, .arr 1 false (nx.map fun x => sV x)), (901, .arr 1 TT.isEmpty (TT.map fun x => sV x)), (902, .arr 1 MM.isEmpty (MM.map fun x => sV x)), (26, .map (km.map strK) (bm.map fun b => bV b)), (16, .map (kc.map strK) (bc.map fun b => bV b)), (3, .box [.sl nl 3 (l.map It.pv)])]⟩ tblOk
    · repeat' (first | exact rfl | ((first | with_reducible refine bokR ?_ | with_reducible refine Side.mk ?_); first | omega | (simp only [ln]; first | done | omega)) | constructor)
    · exact rfl
    · apply Weak.keep
      · exact rfl
      · repeat' (first | exact rfl | (refine Side.mk (oslE ?_ ?_) <;> simp [loOf, hiOf] <;> omega) | constructor)
      · repeat' (first | exact rfl | constructor)
      · exact rfl
      · repeat' (first | exact rfl | exact plainL_map _ (fun _ => rfl) _ | constructor)
    obtain ⟨PR, hPR⟩ : ∃ PR, nx.take (nx.length - 1) = PR := ⟨_, rfl⟩
    have hPl : nx.length - 1 = PR.length := by rw [← hPR, List.length_take]; omega
    have hmt : (nx.map fun x => sV x).take (nx.length - 1) = PR.map fun x => sV x := by rw [← hPR]; exact List.map_take.symm
    apply Trip.weak (S' := ⟨[(3, .ref 3 0), (6, .osl 901 0 TT.length TT.length), (7, .osl 902 0 MM.length MM.length), (8, .mref 16), (11, .mref 26), (12, .osl 900 0 (nx.length - 1) (nx.length - 1)), (13, sV X)], [(900, .arr 1 false ((nx.map fun x => sV x).take (nx.length - 1))), (901, .arr 1 TT.isEmpty (TT.map fun x => sV x)), (902, .arr 1 MM.isEmpty (MM.map fun x => sV x)), (26, .map (km.map strK) (bm.map fun b => bV b)), (16, .map (kc.map strK) (bc.map fun b => bV b)), (3, .box [.sl nl 3 (l.map It.pv)])]⟩)
    · refine Weak.shrink 900 1 (nx.length - 1) rfl (Side.mk (by simp)) (Side.mk (by rw [hmt]; exact plainL_map _ (fun _ => rfl) _)) rfl rfl rfl ?_ ?_
      · repeat' (first | exact rfl | constructor)
      · repeat' (first | exact rfl | exact plainL_map _ (fun _ => rfl) _ | constructor)
    rw [hmt, hPl]
    rw [hPR] at hx
    have hPn : nx.length = PR.length + 1 := by omega
    have hnm : ∀ y, y ∈ nx ↔ y = X ∨ y ∈ PR := fun y => by
      conv => lhs; rw [hx]
      rw [List.mem_append, List.mem_singleton]; exact Or.comm
    clear hx hPl hmt hX hPR
    refine Trip.seq ?_
    refine Trip.seq ?_
    apply Trip.reg tblOk
    · repeat' (first | exact rfl | (apply Rule.sem; intro hγ; with_reducible apply F_lookup (K := strK) (f := bV) (z := false) (zv := .bool false) tblOk hγ (hz := zBool) (hzf := fun _ _ _ => .v _ _)) | exact KeyLaw.str tblOk rfl rfl | ((with_reducible refine Side.mk ?_); omega) | constructor)
    · exact rfl
    apply Trip.cond (.tmp rfl)
    · intro h2
      have h2 : mval km bm false X = true := h2
      rw [hvm, hasS_iff] at h2
      refine Trip.exit ?_
      refine ⟨(met, PR), ?_, ?_, ?_⟩
      · exact ⟨hO.old hnm h2, by simp, by dsimp only; omega⟩
      · first | omega | (dsimp only at *; omega)
      · apply Weak.keep
        · exact rfl
        · repeat' (first | exact rfl | (dsimp only; simp only [hkm, hTT, hMM]) | constructor)
        · repeat' (first | exact rfl | (dsimp only; simp only [hkm, hTT, hMM]) | constructor)
        · exact rfl
        · repeat' (first | exact rfl | (dsimp only; simp only [hkm, hTT, hMM]) | exact plainL_map _ (fun _ => rfl) _ | constructor)
    intro h2
    have h2 : mval km bm false X = false := h2
    rw [hvm] at h2
    have hXm : X ∉ met := fun k => by rw [(hasS_iff _ _).2 k] at h2; simp at h2
    have hkm2 := seenL_snoc met X
    rw [hkm] at hkm2
    dsimp only at hkm2
    refine Trip.skip ?_
    apply Trip.regk ⟨[(3, .ref 3 0), (6, .osl 901 0 TT.length TT.length), (7, .osl 902 0 MM.length MM.length), (8, .mref 16), (11, .mref 26), (12, .osl 900 0 PR.length PR.length), (13, sV X)], [(900, .arr 1 false (PR.map fun x => sV x)), (901, .arr 1 TT.isEmpty (TT.map fun x => sV x)), (902, .arr 1 MM.isEmpty (MM.map fun x => sV x)), (26, .map ((mkeys km X).map strK) ((mset km bm X true).map fun b => bV b)), (16, .map (kc.map strK) (bc.map fun b => bV b)), (3, .box [.sl nl 3 (l.map It.pv)])]⟩ tblOk
    · repeat' (first | exact rfl | (apply Rule.sem; intro hγ; with_reducible apply F_mapUpdate (K := strK) (f := bV) tblOk hγ) | exact KeyLaw.str tblOk rfl rfl | ((with_reducible refine Side.mk ?_); omega) | constructor)
    · exact rfl
    · apply Weak.keep
      · exact rfl
      · repeat' (first | exact rfl | constructor)
      · repeat' (first | exact rfl | constructor)
      · exact rfl
      · repeat' (first | exact rfl | exact plainL_map _ (fun _ => rfl) _ | constructor)
    have cG := cGet nl l X (by omega)
    have hm' : ∀ y, y ∈ met ++ [X] ↔ y = X ∨ y ∈ met := fun y => by rw [List.mem_append, List.mem_singleton]; exact Or.comm
    have hnd' : (met ++ [X]).Nodup := by
      rw [List.nodup_append]
      exact ⟨hO.nd, by simp, by intro a ha b hb; rw [List.mem_singleton] at hb; subst hb; intro e; subst e; exact hXm ha⟩
    have hXn : X ∈ nx := (hnm X).2 (.inl rfl)
    have hmono := toCome_mono l cuts (met := met) (met' := met ++ [X]) (fun y hy => (hm' y).2 (.inr hy)) l
    cases hpl : placed l X with
    | false =>
      rw [hpl] at cG
      simp only [Bool.false_eq_true, if_false] at cG
      have hT2 : (met ++ [X]).filter (placed l) = TT := by rw [List.filter_append, hTT]; simp [hpl]
      have hM2 : (met ++ [X]).filter (fun x => !placed l x) = MM ++ [X] := by rw [List.filter_append, hMM]; simp [hpl]
      refine Trip.seq ?_
      apply Trip.reg tblOk
      · repeat' (first | exact rfl | (apply Rule.sem; intro hγ; with_reducible apply F_call0 (x := .func 15) (B := []) hγ (hspec := cG)) | ((with_reducible refine Side.mk ?_); exact .inl rfl) | constructor)
      · exact rfl
      refine Trip.seq ?_
      refine Trip.seq ?_
      apply Trip.reg tblOk
      · repeat' (first | exact rfl | constructor)
      · exact rfl
      apply Trip.cond (.tmp rfl)
      · intro h3
        clear h3
        refine Trip.seq ?_
        apply Trip.reg tblOk
        · repeat' (first | exact rfl | ((with_reducible refine Side.mk ?_); (simp only [ln]; first | done | omega)) | constructor)
        · exact rfl
        refine Trip.exit ?_
        refine ⟨(met ++ [X], PR), ?_, ?_, ?_⟩
        · exact ⟨hO.new (fun y hy => (hnm y).1 hy) (fun y hy => .inl ((hnm y).2 (.inr hy))) hXn hXm hm' hnd' (fun e => by rw [hpl] at e; simp at e), by simp, by dsimp only; rw [List.length_append, List.length_singleton]; omega⟩
        · first | omega | (dsimp only at *; omega)
        · apply Weak.keep
          · exact rfl
          · repeat' (first | exact rfl | (refine Side.mk ?_; dsimp only; simp only [hkm2, hT2, hM2]; done) | (refine Side.mk ?_; dsimp only; simp only [hM2]; refine oslE ?_ ?_ <;> simp; done) | constructor)
          · repeat' (first | exact rfl | (refine Side.mk ?_; dsimp only; simp only [hkm2, hT2, hM2]; done) | (refine Side.mk ?_; dsimp only; simp only [hM2]; exact arrF (by simp) (by simp)) | constructor)
          · exact rfl
          · repeat' (first | exact rfl | exact plainL_map _ (fun _ => rfl) _ | constructor)
      intro h3
      exact absurd h3 (by decide)
    | true =>
      rw [hpl] at cG
      simp only [if_true] at cG
      have c2 := cLinksN l[place l X]!.kind l[place l X]!.body (mval kc bc false X)
      have hN : nmsOf l[place l X]!.kind l[place l X]!.body (mval kc bc false X) = nmAt l cuts X := by rw [hend X]; rfl
      rw [hN] at c2
      clear hN
      have hNl := nmAt_len l cuts X
      have hcome := toCome_new l cuts hm' hXm l (placed_mem hpl)
      have hon := hO.new (x := X) (next' := PR ++ nmAt l cuts X) (met' := met ++ [X]) (fun y hy => ((hnm y).1 hy).imp id fun k => List.mem_append_left _ k) (fun y hy => (List.mem_append.1 hy).imp (fun k => (hnm y).2 (.inr k)) fun k => ⟨hpl, k⟩) hXn hXm hm' hnd' (fun _ y hy => List.mem_append_right _ hy)
      generalize nmAt l cuts X = NM at *
      generalize l[place l X]!.kind = kk at *
      generalize l[place l X]!.body = bb at *
      generalize (linksOf kk bb).isEmpty = le at *
      have hT2 : (met ++ [X]).filter (placed l) = TT ++ [X] := by rw [List.filter_append, hTT]; simp [hpl]
      have hM2 : (met ++ [X]).filter (fun x => !placed l x) = MM := by rw [List.filter_append, hMM]; simp [hpl]
      refine Trip.seq ?_
      apply Trip.reg tblOk
      · repeat' (first | exact rfl | (apply Rule.sem; intro hγ; with_reducible apply F_call0 (x := .func 15) (B := []) hγ (hspec := cG)) | ((with_reducible refine Side.mk ?_); exact .inl rfl) | constructor)
      · exact rfl
      refine Trip.seq ?_
      refine Trip.seq ?_
      apply Trip.reg tblOk
      · repeat' (first | exact rfl | constructor)
      · exact rfl
      apply Trip.cond (.tmp rfl)
      · intro h3
        exact absurd h3 (by decide)
      intro h3
      clear h3
      refine Trip.skip ?_
      refine Trip.seq ?_
      apply Trip.reg tblOk
      · repeat' (first | exact rfl | ((with_reducible refine Side.mk ?_); (simp only [ln]; first | done | omega)) | constructor)
      · exact rfl
      apply Trip.reg tblOk
      · repeat' (first | exact rfl | (apply Rule.sem; intro hγ; with_reducible apply F_lookup (K := strK) (f := bV) (z := false) (zv := .bool false) tblOk hγ (hz := zBool) (hzf := fun _ _ _ => .v _ _)) | exact KeyLaw.str tblOk rfl rfl | (apply Rule.sem; intro hγ; with_reducible apply F_call0 (x := .func 94) (B := []) hγ (hspec := c2)) | exact cellsOk_map _ (fun _ => rfl) _ | ((with_reducible refine Side.mk ?_); first | omega | exact .inl rfl | (simp only [ln]; first | done | omega)) | constructor)
      · exact rfl
      have hPN : (PR ++ NM).length = PR.length + NM.length := List.length_append
      refine ⟨(met ++ [X], PR ++ NM), ?_, ?_, ?_⟩
      · exact ⟨hon, by simp, by dsimp only; rw [List.length_append, List.length_append, List.length_singleton]; omega⟩
      · first | omega | (dsimp only at *; omega)
      · apply Weak.keep
        · exact rfl
        · repeat' (first | exact rfl | (refine Side.mk ?_; dsimp only; simp only [hkm2, hT2, hM2]; done) | (refine Side.mk ?_; dsimp only; (try simp only [hT2]); refine oslE ?_ ?_ <;> simp; done) | constructor)
        · repeat' (first | exact rfl | (refine Side.mk ?_; dsimp only; simp only [hkm2, hT2, hM2]; done) | (refine Side.mk ?_; dsimp only; (try simp only [hT2]); exact arrF (by simp) (by simp)) | constructor)
        · exact rfl
        · repeat' (first | exact rfl | exact plainL_map _ (fun _ => rfl) _ | constructor)
  intro h
  have h : nx = [] := by simpa using h
  subst h
  refine Trip.exit ?_
  have hTl : (met.filter (placed l)).length ≤ met.length := List.length_filter_le _ _
  have hMl : (met.filter fun x => !placed l x).length ≤ met.length := List.length_filter_le _ _
  have hre := (hO.reach (msort_asc (hO.nd.filter (placed l))) (msort_asc (hO.nd.filter fun x => !placed l x)) (fun x => msort_mem _ x) (fun x => msort_mem _ x)).uniq hR
  have e1 : (met.filter (placed l)).isEmpty = H.isEmpty := by rw [← hre.1, Bool.eq_iff_iff, List.isEmpty_iff_length_eq_zero, List.isEmpty_iff_length_eq_zero, msort_len]
  have e2 : (met.filter fun x => !placed l x).isEmpty = K.isEmpty := by rw [← hre.2, Bool.eq_iff_iff, List.isEmpty_iff_length_eq_zero, List.isEmpty_iff_length_eq_zero, msort_len]
  have e3 : (met.filter (placed l)).length = H.length := by rw [← hre.1, msort_len]
  have e4 : (met.filter fun x => !placed l x).length = K.length := by rw [← hre.2, msort_len]
  have s1 := cSortS (met.filter (placed l)).length (met.filter (placed l)).isEmpty (met.filter (placed l)) rfl (by omega)
  have s2 := cSortS (met.filter fun x => !placed l x).length (met.filter fun x => !placed l x).isEmpty (met.filter fun x => !placed l x) rfl (by omega)
  rw [hre.1, e1, e3] at s1
  rw [hre.2, e2, e4] at s2
  dsimp only
  rw [e1, e2, e3, e4]
  generalize hq : seenL met = q
  clear hre e1 e2
  generalize met.filter (placed l) = TT at *
  generalize (met.filter fun x => !placed l x) = MM at *
  refine Trip.seq ?_
  apply Trip.reg tblOk
  · repeat' (first | exact rfl | (apply Rule.sem; intro hγ; with_reducible apply F_call (x := .func 95) (σ := [901]) (B := []) (news := []) hγ (hspec := s1)) | exact plainL_map _ (fun _ => rfl) _ | ((with_reducible refine Side.mk ?_); exact .inl rfl) | constructor)
  · exact rfl
  refine Trip.seq ?_
  apply Trip.reg tblOk
  · repeat' (first | exact rfl | (apply Rule.sem; intro hγ; with_reducible apply F_call (x := .func 95) (σ := [902]) (B := []) (news := []) hγ (hspec := s2)) | exact plainL_map _ (fun _ => rfl) _ | ((with_reducible refine Side.mk ?_); exact .inl rfl) | constructor)
  · exact rfl
  refine Trip.seq ?_
  apply Trip.reg tblOk
  · repeat' (first | exact rfl | constructor)
  · exact rfl
  refine Trip.ret ?_
  apply Ret2 [901, 902]
  · repeat' (first | exact rfl | constructor)
  · exact rfl
  · repeat' (first | exact rfl | exact plainL_map _ (fun _ => rfl) _ | (refine Side.mk ?_; simp only [ln]; first | done | omega) | constructor)
  · repeat' (first | exact rfl | exact plainL_map _ (fun _ => rfl) _ | (refine Side.mk ?_; simp only [ln]; first | done | omega) | constructor)
end Go.Proofs.Tryz
