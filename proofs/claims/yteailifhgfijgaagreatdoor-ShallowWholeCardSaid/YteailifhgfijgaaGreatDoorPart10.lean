/- A part of the proof: SymN. -/
import Derived.Test.YteailifhgfijgaaGreatDoorPart09
set_option linter.unusedVariables false
set_option linter.unusedSimpArgs false
namespace Go.Sym
open Go.RowKit
theorem range_of_blk {l : Loc} {b : Nat} (h : l.blk = some b) : ∃ p, l.range = some p ∧ p.1 = b := by
 cases l with
 | box b' o n => simp [Loc.blk] at h; subst h; exact ⟨_, rfl, rfl⟩
 | arr base n cap sz =>
  cases base with
  | none => simp [Loc.blk] at h
  | some bo => simp [Loc.blk] at h; subst h; exact ⟨_, rfl, rfl⟩
 | gone => simp [Loc.blk] at h
 | map b' => simp [Loc.blk] at h; subst h; exact ⟨_, rfl, rfl⟩
 | iter b' => simp [Loc.blk] at h; subst h; exact ⟨_, rfl, rfl⟩
theorem ConvL.get {S : St} {σ : List (Nat × Nat)} {B : List Nat} : ∀ {cs ds : List PV}, ConvL S σ B cs ds → cs.length = ds.length ∧ ∀ (j : Nat) d, ds[j]? = some d → ∃ c, cs[j]? = some c ∧ ConvP S σ B c d
 | [], [], _ => ⟨rfl, fun j d h => by simp at h⟩
 | [], _ :: _, h => by cases h
 | _ :: _, [], h => by cases h
 | c :: cs, d :: ds, h => by
  cases h with
  | cons g1 g2 =>
   obtain ⟨k1, k2⟩ := g2.get
   refine ⟨by simp [k1], fun j d' hj => ?_⟩
   cases j with
   | zero => simp at hj; subst hj; exact ⟨_, rfl, g1⟩
   | succ j => simpa using k2 j d' (by simpa using hj)
section
variable {P : Program} {T : Tbl} {fr : Fr} {S : St} {L : LMap} {a : Act} {w : World} {σ : List Nat} {B : List Nat}
theorem RM.lt (hM : RM fr S L w) {n b : Nat} {l : Loc} (h1 : L n = some l) (h2 : l.blk = some b) : b < w.heap.size := by
 obtain ⟨_, h3⟩ := hM.place n l b h1 h2
 rcases h3 with h3 | ⟨p, hp, hr⟩
 ·exact h3.2
 ·have := blk_of_range hr
  rw [h2] at this
  rw [Option.some.inj this]
  exact Nat.lt_of_lt_of_le (hM.parLt.1 p hp) hM.frame.size
def subL (L : LMap) (σ : List Nat) : LMap := fun n => match look (bwd PN σ) n with | some o => L o | none => none
def callX (fr : Fr) (L : LMap) (σ B : List Nat) : Nat → Prop := fun b => fr.F L b ∧ ∀ o, (σ.contains o = true ∨ B.contains o = true) → ∀ l, L o = some l → l.blk ≠ some b
def callFr (fr : Fr) (L : LMap) (w : World) (σ B : List Nat) : Fr := { w0 := w, X := callX fr L σ B, par := σ.filterMap fun o => (L o).bind Loc.range, L0 := subL L σ, nt := 0, gl := fr.gl }
theorem subL_some {n : Nat} {l : Loc} (h : subL L σ n = some l) : ∃ i o, n = PN + i ∧ σ[i]? = some o ∧ L o = some l := by
 unfold subL at h
 cases hb : look (bwd PN σ) n with
 | none => rw [hb] at h; simp at h
 | some o =>
  rw [hb] at h
  obtain ⟨h1, h2⟩ := look_bwd _ _ _ _ hb
  exact ⟨n - PN, o, by omega, h2, h⟩
theorem subL_at {i o : Nat} (h : σ[i]? = some o) : subL L σ (PN + i) = L o := by
 unfold subL
 rw [look_bwd_mem h]
theorem callF_sub {b : Nat} (h : (callFr fr L w σ B).F (callFr fr L w σ B).L0 b) : fr.F L b := by
 rcases h with h | ⟨n, l, h1, h2⟩
 ·exact h.1
 ·obtain ⟨i, o, _, h4, h5⟩ := subL_some h1
  exact .inr ⟨o, l, h5, h2⟩
theorem callF_B (hM : RM fr S L w) (hσB : B.all (fun o => !σ.contains o) = true) {o b : Nat} {l : Loc} (ho : B.contains o = true) (h1 : L o = some l) (h2 : l.blk = some b) : ¬ (callFr fr L w σ B).F (callFr fr L w σ B).L0 b := by
 rintro (h | ⟨n, l', h3, h4⟩)
 ·exact h.2 o (.inr ho) l h1 h2
 ·obtain ⟨i, o', _, h6, h7⟩ := subL_some h3
  have := hM.inj o o' l l' b h1 h7 h2 h4
  subst this
  have := (List.all_eq_true.1 hσB) o (by simpa using ho)
  have h8 := List.mem_of_getElem? h6
  simp [h8] at this
theorem call_entry (hM : RM fr S L w) (hd : distinct σ = true) (hσB : B.all (fun o => !σ.contains o) = true) {cs objs : List SObj} (hobj : Objs S σ cs) (hconv : SConvs S (fwd PN σ) B cs objs) :
  RM (callFr fr L w σ B) ⟨[], named PN objs⟩ (callFr fr L w σ B).L0 w := by
 have hnd := distinct_nodup hd
 obtain ⟨ho1, ho2⟩ := hobj.get
 obtain ⟨hc1, hc2⟩ := hconv.get
 have hcv := conv_rep_all (L' := subL L σ) (F' := (callFr fr L w σ B).F (callFr fr L w σ B).L0) hM (σ := fwd PN σ) (B := B) (fun b h h' => h (callF_sub h')) (fun o h l b h1 h2 => callF_B hM hσB h h1 h2) (fun o o' h l hl => by
  obtain ⟨i, h1, rfl⟩ := look_fwd _ _ _ _ h
  rw [subL_at h1]; exact hl)
 have hpar : ∀ p, p ∈ (callFr fr L w σ B).par ↔ ∃ o l, o ∈ σ ∧ L o = some l ∧ l.range = some p := fun p => by
  simp only [callFr, List.mem_filterMap]
  constructor
  ·rintro ⟨o, h1, h2⟩
   cases hl : L o with
   | none => rw [hl] at h2; simp at h2
   | some l => rw [hl] at h2; exact ⟨o, l, h1, hl, h2⟩
  ·rintro ⟨o, l, h1, h2, h3⟩
   exact ⟨o, h1, by rw [h2]; exact h3⟩
 have hlt := fun {n b l} => @RM.lt fr S L w hM n b l
 refine ⟨fun n ob hn => ?_, fun n l hn => ?_, fun n n' l l' b hn hn' hb hb' => ?_, fun n l b hn hb => ?_, fun n l b hn hb => ?_, ⟨fun p hp => ?_, fun p hp q hq hpq => ?_⟩, fun b hb => ?_, ?_, LExt.refl _⟩
 ·have hn' : look (named PN objs) n = some ob := hn
  rw [look_named] at hn'
  split at hn'
  ·rename_i hle
   obtain ⟨c, hc, hcv1⟩ := hc2 _ _ hn'
   have hil : n - PN < σ.length := by
    have := (List.getElem?_eq_some_iff.1 hn').1
    omega
   obtain ⟨o, hio⟩ : ∃ o, σ[n - PN]? = some o := ⟨_, List.getElem?_eq_getElem hil⟩
   obtain ⟨c', hc', hob⟩ := ho2 _ _ hio
   rw [hc] at hc'; cases hc'
   obtain ⟨l, hl, hat⟩ := hM.objs o c hob
   refine ⟨l, by rw [show n = PN + (n - PN) by omega]; exact (subL_at hio).trans hl, ?_⟩
   cases hcv1 with
   | box hcl =>
    rename_i cs ds
    cases l with
    | box b off k =>
     obtain ⟨rfl, hcells⟩ := hat
     refine ⟨hcl.get.1, fun j d hj => ?_⟩
     obtain ⟨c, hcj, hcd⟩ := hcl.get.2 j d hj
     obtain ⟨x, g1, g2, g3⟩ := hcells j c hcj
     exact ⟨x, g1, g2, hcv.1 hcd _ g3⟩
    | arr => exact hat.elim
    | gone => exact hat.elim
    | map => exact hat.elim
    | iter => exact hat.elim
   | arr hp =>
    rename_i sz nl es
    cases l with
    | arr base k cap sz' =>
     obtain ⟨g1, g2, g3, g4, g5, g6⟩ := hat
     refine ⟨g1, g2, g3, g4, g5, ?_⟩
     cases base with
     | none => exact g6
     | some bo =>
      refine ⟨fun j c hj => ?_, g6.2⟩
      obtain ⟨x, k1, k2, k3⟩ := g6.1 j c hj
      have hpc : Sym.plain c = true := by
       simp only [cellsOf] at hj
       obtain ⟨e, he, hce⟩ := List.mem_flatMap.1 (List.mem_of_getElem? hj)
       exact plain_cells (plainL_mem hp e he) c hce
      exact ⟨x, k1, k2, (k3.plain hpc _).mono (fun b s hx hn => ⟨hx, fun h => hn (callF_sub h)⟩) (LExt.refl _)⟩
    | box => exact hat.elim
    | gone => exact hat.elim
    | map => exact hat.elim
    | iter => exact hat.elim
   | map hp =>
    cases l with
    | map b =>
     obtain ⟨es, clock, g1, g2, g3, g4⟩ := hat
     exact ⟨es, clock, g1, g2, (rep_plain_all.2 g3 hp _).mono (fun b s hx hn => ⟨hx, fun h => hn (callF_sub h)⟩) (LExt.refl _), g4⟩
    | _ => exact hat.elim
  ·simp at hn'
 ·obtain ⟨i, o, rfl, h1, h2⟩ := subL_some hn
  have hil := (List.getElem?_eq_some_iff.1 h1).1
  refine ⟨objs[i]'(by omega), ?_⟩
  show look (named PN objs) (PN + i) = _
  rw [look_named, if_pos (by omega), show PN + i - PN = i by omega]
  exact List.getElem?_eq_getElem _
 ·obtain ⟨i, o, rfl, h1, h2⟩ := subL_some hn
  obtain ⟨i', o', rfl, h1', h2'⟩ := subL_some hn'
  have := hM.inj o o' l l' b h2 h2' hb hb'
  subst this
  have h3 := (List.getElem?_eq_some_iff.1 h1)
  have h4 := (List.getElem?_eq_some_iff.1 h1')
  obtain ⟨h3a, h3b⟩ := h3
  obtain ⟨h4a, h4b⟩ := h4
  rw [(List.getElem_inj hnd).1 (h3b.trans h4b.symm)]
 ·obtain ⟨i, o, rfl, h1, h2⟩ := subL_some hn
  have hm := List.mem_of_getElem? h1
  obtain ⟨p, hp1, hp2⟩ := range_of_blk hb
  exact ⟨fun hX => hX.2 o (.inl (by simpa using hm)) l h2 hb, .inr ⟨p, (hpar p).2 ⟨o, l, hm, h2, hp1⟩, hp1⟩⟩
 ·obtain ⟨i, o, rfl, h1, h2⟩ := subL_some hn
  exact hM.kind o l b h2 hb
 ·obtain ⟨o, l, h1, h2, h3⟩ := (hpar p).1 hp
  exact hlt h2 (blk_of_range h3)
 ·obtain ⟨o, l, h1, h2, h3⟩ := (hpar p).1 hp
  obtain ⟨o', l', h1', h2', h3'⟩ := (hpar q).1 hq
  have := hM.inj o o' l l' p.1 h2 h2' (blk_of_range h3) (by rw [hpq]; exact blk_of_range h3')
  subst this
  rw [h2] at h2'; cases h2'
  rw [h3] at h3'; cases h3'; rfl
 ·rcases hb.1 with hX | ⟨n, l, h1, h2⟩
  ·exact Nat.lt_of_lt_of_le (hM.xLt b hX) hM.frame.size
  ·exact hlt h1 h2
 ·refine ⟨rfl, rfl, rfl, Nat.le_refl _, fun _ _ _ => rfl, fun p hp => ?_, hM.frame.glob, fun x hx => ⟨Nat.lt_of_lt_of_le (hM.frame.gpar x hx).1 hM.frame.size, fun p hp hpx => ?_⟩⟩
  ·obtain ⟨o, l, h1, h2, h3⟩ := (hpar p).1 hp
   exact (hM.kind o l p h2 h3).refl
  ·obtain ⟨o, l, h1, h2, h3⟩ := (hpar p).1 hp
   obtain ⟨g1, g2⟩ := hM.frame.gpar x hx
   rcases (hM.place o l p.1 h2 (blk_of_range h3)).2 with h | ⟨p', k1, k2⟩
   ·omega
   ·rw [h3] at k2; cases k2
    exact g2 _ k1 hpx
def backL (L L2 : LMap) (σ news : List Nat) : LMap := fun n => match look (fwd PN σ) n with
 | some m => L2 m
 | none => match look (fwd FN news) n with
  | some m => L2 m
  | none => L n
theorem look_fwd_none {l : List Nat} {k n : Nat} (h : n ∉ l) : look (fwd k l) n = none := by
 cases hl : look (fwd k l) n with
 | none => rfl
 | some m => obtain ⟨i, h1, _⟩ := look_fwd _ _ _ _ hl; exact absurd (List.mem_of_getElem? h1) h
theorem call_exit (hR : R fr S L a w) (hd : distinct σ = true) (hσB : B.all (fun o => !σ.contains o) = true) {cs : List SObj} (hobj : Objs S σ cs) {news : List Nat} (hnews : distinct news = true) (hno : NoObjs S news)
  {w' : World} {L2 : LMap} {objs' fresh objs2 fresh2 : List SObj} {r r2 : PV} {v : Value} (hlo : objs'.length = σ.length) (hlf : fresh.length = news.length) (hlen100 : objs'.length < 100000)
  (hM2 : RM (callFr fr L w σ B) ⟨[], named PN objs' ++ named FN fresh⟩ L2 w') (hr : Rep w' ((callFr fr L w σ B).F L2) L2 r v)
  (hc1 : SConvs ⟨[], []⟩ (bwd PN σ ++ bwd FN news) [] objs' objs2) (hc2 : SConvs ⟨[], []⟩ (bwd PN σ ++ bwd FN news) [] fresh fresh2) (hcr : ConvP ⟨[], []⟩ (bwd PN σ ++ bwd FN news) [] r r2)
  (hro : B = [] ∨ (roFree r = true ∧ objs'.all SObj.roFree = true ∧ fresh.all SObj.roFree = true)) :
  R fr (S.upd (zipO σ objs2 ++ zipO news fresh2)) (backL L L2 σ news) a w' ∧ Rep w' (fr.F (backL L L2 σ news)) (backL L L2 σ news) r2 v := by
 have hM := hR.mem
 have hnd := distinct_nodup hd
 have hnn := distinct_nodup hnews
 obtain ⟨ho1, ho2⟩ := hobj.get
 have hno' := hno.get
 have hlt := fun {n b l} => @RM.lt fr S L w hM n b l
 have hdisj : ∀ n ∈ news, n ∉ σ := fun n hn hs => by
  obtain ⟨i, hi⟩ := List.getElem?_of_mem hs
  obtain ⟨o, _, h2⟩ := ho2 i n hi
  rw [hno' n hn] at h2; simp at h2
 have hbσ : ∀ {i n : Nat}, σ[i]? = some n → backL L L2 σ news n = L2 (PN + i) := fun h => by
  unfold backL; rw [look_fwd_mem hnd _ _ _ h]
 have hbn : ∀ {i n : Nat}, news[i]? = some n → backL L L2 σ news n = L2 (FN + i) := fun h => by
  unfold backL; rw [look_fwd_none (hdisj _ (List.mem_of_getElem? h))]
  simp only [look_fwd_mem hnn _ _ _ h]
 have hbo : ∀ {n : Nat}, n ∉ σ → n ∉ news → backL L L2 σ news n = L n := fun h1 h2 => by
  unfold backL; rw [look_fwd_none h1]
  simp only [look_fwd_none h2]
 have hfr0 : (callFr fr L w σ B).w0 = w := rfl
 have hF0 := hM2.frame
 have hsz : w.heap.size ≤ w'.heap.size := hF0.size
 have hpar : ∀ p, p ∈ (callFr fr L w σ B).par ↔ ∃ o l, o ∈ σ ∧ L o = some l ∧ l.range = some p := fun p => by
  simp only [callFr, List.mem_filterMap]
  constructor
  ·rintro ⟨o, h1, h2⟩
   cases hl : L o with
   | none => rw [hl] at h2; simp at h2
   | some l => rw [hl] at h2; exact ⟨o, l, h1, hl, h2⟩
  ·rintro ⟨o, l, h1, h2, h3⟩
   exact ⟨o, h1, by rw [h2]; exact h3⟩
 have hsame : ∀ b, b < w.heap.size → (∀ o ∈ σ, ∀ l, L o = some l → l.blk ≠ some b) → w'.heap[b]? = w.heap[b]? := fun b hb hn => hF0.block b hb fun p hp hpb => by
  obtain ⟨o, l, h1, h2, h3⟩ := (hpar p).1 hp
  exact hn o h1 l h2 (by rw [blk_of_range h3, hpb])
 have hL2 : ∀ {m b : Nat} {l : Loc}, L2 m = some l → l.blk = some b → (w.heap.size ≤ b ∧ b < w'.heap.size) ∨ ∃ o l0, o ∈ σ ∧ L o = some l0 ∧ l0.blk = some b ∧ l0.range = l.range := fun {m b l} h1 h2 => by
  obtain ⟨_, h3⟩ := hM2.place m l b h1 h2
  rcases h3 with h3 | ⟨p, hp, hpr⟩
  ·exact .inl h3
  ·obtain ⟨o, l0, g1, g2, g3⟩ := (hpar p).1 hp
   have hpb := blk_of_range hpr
   rw [h2] at hpb
   exact .inr ⟨o, l0, g1, g2, by rw [blk_of_range g3]; exact hpb.symm, g3.trans hpr.symm⟩
 have hcase : ∀ n, (∃ i : Nat, σ[i]? = some n ∧ backL L L2 σ news n = L2 (PN + i)) ∨ (∃ i : Nat, news[i]? = some n ∧ backL L L2 σ news n = L2 (FN + i)) ∨ (n ∉ σ ∧ n ∉ news ∧ backL L L2 σ news n = L n) := fun n => by
  by_cases h1 : n ∈ σ
  ·obtain ⟨i, hi⟩ := List.getElem?_of_mem h1
   exact .inl ⟨i, hi, hbσ hi⟩
  ·by_cases h2 : n ∈ news
   ·obtain ⟨i, hi⟩ := List.getElem?_of_mem h2
    exact .inr (.inl ⟨i, hi, hbn hi⟩)
   ·exact .inr (.inr ⟨h1, h2, hbo h1 h2⟩)
 have hFnew : ∀ b, fr.F (backL L L2 σ news) b → fr.F L b ∨ (w.heap.size ≤ b ∧ b < w'.heap.size) := by
  rintro b (hX | ⟨n, l, hn, hb⟩)
  ·exact .inl (.inl hX)
  ·have key : ∀ {m : Nat}, L2 m = some l → fr.F L b ∨ (w.heap.size ≤ b ∧ b < w'.heap.size) := fun hm => by
    rcases hL2 hm hb with h | ⟨o, l0, _, h2, h3, _⟩
    ·exact .inr h
    ·exact .inl (.inr ⟨o, l0, h2, h3⟩)
   rcases hcase n with ⟨i, _, he⟩ | ⟨i, _, he⟩ | ⟨_, _, he⟩
   ·rw [he] at hn; exact key hn
   ·rw [he] at hn; exact key hn
   ·rw [he] at hn; exact .inl (.inr ⟨n, l, hn, hb⟩)
 have hext : Ext w (fr.F L) w' (fr.F (backL L L2 σ news)) := fun b s hx hnF => by
  have hb := sees_lt hx
  refine ⟨sees_block (hsame b hb fun o ho l hl hbl => hnF (.inr ⟨o, l, hl, hbl⟩)) hx, fun h => ?_⟩
  rcases hFnew b h with h | h
  ·exact hnF h
  ·omega
 have hlex : LExt L (backL L L2 σ news) := fun n l hn => by
  rcases hcase n with ⟨i, hi, he⟩ | ⟨i, hi, _⟩ | ⟨_, _, he⟩
  ·have h0 : (callFr fr L w σ B).L0 (PN + i) = some l := (subL_at hi).trans hn
   obtain ⟨l', h1, h2⟩ := hM2.lext _ _ h0
   exact ⟨l', he.trans h1, h2⟩
  ·obtain ⟨ob, hob⟩ := hM.dom n l hn
   rw [hno' n (List.mem_of_getElem? hi)] at hob; simp at hob
  ·exact ⟨l, he.trans hn, l.le_refl⟩
 have hσb : ∀ o o', look (bwd PN σ ++ bwd FN news) o = some o' → ∀ l, L2 o = some l → backL L L2 σ news o' = some l := fun o o' h l hl => by
  rw [look_append] at h
  cases h1 : look (bwd PN σ) o with
  | some x =>
   rw [h1] at h; simp at h; subst h
   obtain ⟨g1, g2⟩ := look_bwd _ _ _ _ h1
   rw [hbσ g2, show PN + (o - PN) = o by omega]; exact hl
  | none =>
   rw [h1] at h; simp at h
   obtain ⟨g1, g2⟩ := look_bwd _ _ _ _ h
   rw [hbn g2, show FN + (o - FN) = o by omega]; exact hl
 have hback := back_rep_all (w := w') (F := (callFr fr L w σ B).F L2) (F' := fr.F (backL L L2 σ news)) (L := L2) (L' := backL L L2 σ news) hσb
 have hFF : B = [] → ∀ b, ¬ (callFr fr L w σ B).F L2 b → ¬ fr.F (backL L L2 σ news) b := fun hB b hn hF' => by
  apply hn
  rcases hF' with hX | ⟨n, l, hln, hb⟩
  ·refine .inl ⟨.inl hX, fun o ho l hl hbl => ?_⟩
   exact (hM.place o l b hl hbl).1 hX
  ·rcases hcase n with ⟨i, _, he⟩ | ⟨i, _, he⟩ | ⟨h1, h2, he⟩
   ·rw [he] at hln; exact .inr ⟨_, l, hln, hb⟩
   ·rw [he] at hln; exact .inr ⟨_, l, hln, hb⟩
   ·rw [he] at hln
    refine .inl ⟨.inr ⟨n, l, hln, hb⟩, fun o ho l' hl' hbl' => ?_⟩
    rcases ho with ho | ho
    ·have := hM.inj o n l' l b hl' hln hbl' hb
     subst this
     exact h1 (by simpa using ho)
    ·rw [hB] at ho; simp at ho
 have hor : ∀ {p : PV}, (B ≠ [] → roFree p = true) → ((∀ b, ¬ (callFr fr L w σ B).F L2 b → ¬ fr.F (backL L L2 σ news) b) ∨ roFree p = true) := fun h => by
  by_cases hB : B = []
  ·exact .inl (hFF hB)
  ·exact .inr (h hB)
 have hobjAt : ∀ {ob ob2 : SObj} {l : Loc}, SConv ⟨[], []⟩ (bwd PN σ ++ bwd FN news) [] ob ob2 → (B ≠ [] → ob.roFree = true) → ObjAt w' ((callFr fr L w σ B).F L2) L2 ob l → ObjAt w' (fr.F (backL L L2 σ news)) (backL L L2 σ news) ob2 l := by
  intro ob ob2 l hc hrf hat
  cases hc with
  | box hcl =>
   rename_i cs ds
   cases l with
   | box b off k =>
    obtain ⟨rfl, hcells⟩ := hat
    obtain ⟨k1, k2⟩ := hcl.get
    refine ⟨k1, fun j d hj => ?_⟩
    obtain ⟨c, hcj, hcd⟩ := k2 j d hj
    obtain ⟨x, g1, g2, g3⟩ := hcells j c hcj
    exact ⟨x, g1, g2, hback.1 hcd _ g3 (hor fun hB => by
     have h1 : roFreeL cs = true := hrf hB
     have : ∀ {l : List PV}, roFreeL l = true → ∀ c ∈ l, roFree c = true := by
      intro l
      induction l with
      | nil => intro _ c hc; simp at hc
      | cons d ds ih =>
       intro h c hc
       simp only [roFreeL, Bool.and_eq_true] at h
       rcases List.mem_cons.1 hc with rfl | hc
       ·exact h.1
       ·exact ih h.2 c hc
     exact this h1 c (List.mem_of_getElem? hcj))⟩
   | arr => exact hat.elim
   | gone => exact hat.elim
   | map => exact hat.elim
   | iter => exact hat.elim
  | arr hp =>
   rename_i sz nl es
   cases l with
   | arr base k cap sz' =>
    obtain ⟨g1, g2, g3, g4, g5, g6⟩ := hat
    refine ⟨g1, g2, g3, g4, g5, ?_⟩
    cases base with
    | none => exact g6
    | some bo =>
     refine ⟨fun j c hj => ?_, g6.2⟩
     obtain ⟨x, k1, k2, k3⟩ := g6.1 j c hj
     have hpc : Sym.plain c = true := by
      simp only [cellsOf] at hj
      obtain ⟨e, he, hce⟩ := List.mem_flatMap.1 (List.mem_of_getElem? hj)
      exact plain_cells (plainL_mem hp e he) c hce
     refine ⟨x, k1, k2, ?_⟩
     rcases hor (p := c) (fun hB => by
      have h1 : roFreeL (cellsOf es) = true := hrf hB
      have : ∀ {l : List PV}, roFreeL l = true → ∀ c ∈ l, roFree c = true := by
       intro l
       induction l with
       | nil => intro _ c hc; simp at hc
       | cons d ds ih =>
        intro h c hc
        simp only [roFreeL, Bool.and_eq_true] at h
        rcases List.mem_cons.1 hc with rfl | hc
        ·exact h.1
        ·exact ih h.2 c hc
      exact this h1 c (List.mem_of_getElem? hj)) with h | h
     ·exact (k3.plain hpc _).mono (fun b s hx hn => ⟨hx, h b hn⟩) (LExt.refl _)
     ·exact (ro_rep_all.1 k3 h).plain hpc _
   | box => exact hat.elim
   | gone => exact hat.elim
   | map => exact hat.elim
   | iter => exact hat.elim
  | map hp =>
   rename_i ks vs
   cases l with
   | map b =>
    obtain ⟨es, clock, g1, g2, g3, g4⟩ := hat
    refine ⟨es, clock, g1, g2, ?_, g4⟩
    by_cases hB : B = []
    ·exact (rep_plain_all.2 g3 hp _).mono (fun b s hx hn => ⟨hx, hFF hB b hn⟩) (LExt.refl _)
    ·exact rep_plain_all.2 (ro_rep_all.2 g3 (hrf hB)) hp _
   | _ => exact hat.elim
 obtain ⟨hc1l, hc1g⟩ := hc1.get
 obtain ⟨hc2l, hc2g⟩ := hc2.get
 have hlookP : ∀ {i : Nat} {o : SObj}, objs'[i]? = some o → St.obj ⟨[], named PN objs' ++ named FN fresh⟩ (PN + i) = some o := fun {i o} h => by
  show look (named PN objs' ++ named FN fresh) (PN + i) = _
  rw [look_append, look_named, if_pos (by omega), show PN + i - PN = i by omega, h]; rfl
 have hlookF : ∀ {i : Nat} {o : SObj}, fresh[i]? = some o → St.obj ⟨[], named PN objs' ++ named FN fresh⟩ (FN + i) = some o := fun {i o} h => by
  show look (named PN objs' ++ named FN fresh) (FN + i) = _
  have hn : look (named PN objs') (FN + i) = none := by
   rw [look_named]
   split
   ·rw [List.getElem?_eq_none (by simp only [FN, PN]; omega)]
   ·rfl
  rw [look_append, hn, look_named, if_pos (by omega), show FN + i - FN = i by omega, h]; rfl
 have hall : ∀ {l : List SObj} {i : Nat} {o : SObj}, l.all SObj.roFree = true → l[i]? = some o → o.roFree = true := fun h hi => (List.all_eq_true.1 h) _ (List.mem_of_getElem? hi)
 refine ⟨⟨⟨fun n ob hn => ?_, fun n l hn => ?_, fun n n' l l' b hn hn' hb hb' => ?_, fun n l b hn hb => ?_, fun n l b hn hb => ?_, hM.parLt, hM.xLt, ?_, hM.lext.trans hlex⟩, hR.nt, hR.defers, fun t p hp => ?_⟩, hback.1 hcr _ hr (hor fun hB => (hro.resolve_left hB).1)⟩
 ·rw [St.obj_upd, look_append] at hn
  rcases hcase n with ⟨i, hi, he⟩ | ⟨i, hi, he⟩ | ⟨h1, h2, he⟩
  ·obtain ⟨o2, ho2'⟩ := look_zipO_mem (ns := σ) (os := objs2) (by omega) n (List.mem_of_getElem? hi)
   rw [ho2'] at hn; simp at hn; subst hn
   obtain ⟨i', g1, g2⟩ := look_zipO hnd (by omega) _ _ ho2'
   have hii : i' = i := by
    obtain ⟨k1, k2⟩ := List.getElem?_eq_some_iff.1 g1
    obtain ⟨k3, k4⟩ := List.getElem?_eq_some_iff.1 hi
    exact (List.getElem_inj hnd).1 (k2.trans k4.symm)
   subst hii
   obtain ⟨o', g3, g4⟩ := hc1g _ _ g2
   obtain ⟨l, g5, g6⟩ := hM2.objs _ _ (hlookP g3)
   exact ⟨l, he.trans g5, hobjAt g4 (fun hB => hall (hro.resolve_left hB).2.1 g3) g6⟩
  ·rw [look_zipO_none (hdisj n (List.mem_of_getElem? hi))] at hn
   obtain ⟨o2, ho2'⟩ := look_zipO_mem (ns := news) (os := fresh2) (by omega) n (List.mem_of_getElem? hi)
   rw [ho2'] at hn; simp at hn; subst hn
   obtain ⟨i', g1, g2⟩ := look_zipO hnn (by omega) _ _ ho2'
   have hii : i' = i := by
    obtain ⟨k1, k2⟩ := List.getElem?_eq_some_iff.1 g1
    obtain ⟨k3, k4⟩ := List.getElem?_eq_some_iff.1 hi
    exact (List.getElem_inj hnn).1 (k2.trans k4.symm)
   subst hii
   obtain ⟨o', g3, g4⟩ := hc2g _ _ g2
   obtain ⟨l, g5, g6⟩ := hM2.objs _ _ (hlookF g3)
   exact ⟨l, he.trans g5, hobjAt g4 (fun hB => hall (hro.resolve_left hB).2.2 g3) g6⟩
  ·rw [look_zipO_none h1, look_zipO_none h2] at hn
   simp at hn
   obtain ⟨l, g1, g2⟩ := hM.objs n ob hn
   refine ⟨l, he.trans g1, ?_⟩
   have hcs : ∀ b, l.blk = some b → w'.heap[b]? = w.heap[b]? := fun b hb => hsame b (hlt g1 hb) fun o ho l' hl' hb' => h1 (by rw [hM.inj n o l l' b g1 hl' hb hb']; exact ho)
   have hCA : ∀ (cs : List PV) (b off : Nat), w'.heap[b]? = w.heap[b]? → CellsAt w (fr.F L) L cs b off → CellsAt w' (fr.F (backL L L2 σ news)) (backL L L2 σ news) cs b off := by
    intro cs b off hsm hc j c hj
    obtain ⟨x, k1, k2, k3⟩ := hc j c hj
    exact ⟨x, (World.cell?_of_block (w := w) (a := ⟨b, off + j, none⟩) hsm).trans k1, (World.frozen?_of_block (w := w) (a := ⟨b, off + j, none⟩) hsm).trans k2, k3.mono hext hlex⟩
   cases ob with
   | box cs =>
    cases l with
    | box b o' n' => exact ⟨g2.1, hCA cs b o' (hcs b rfl) g2.2⟩
    | _ => exact g2
   | arr sz isnil es =>
    cases l with
    | arr base n' cap sz' =>
     cases base with
     | none => exact g2
     | some bo =>
      obtain ⟨b, o'⟩ := bo
      obtain ⟨k1, k2, k3, k4, k5, k6, k7⟩ := g2
      refine ⟨k1, k2, k3, k4, k5, hCA _ b o' (hcs b rfl) k6, fun j hj => ?_⟩
      obtain ⟨x, hx1, hx2⟩ := k7 j hj
      exact ⟨x, (World.cell?_of_block (w := w) (a := ⟨b, o' + j, none⟩) (hcs b rfl)).trans hx1, (World.frozen?_of_block (w := w) (a := ⟨b, o' + j, none⟩) (hcs b rfl)).trans hx2⟩
    | _ => exact g2
   | gone => cases l <;> exact g2
   | arrc sz isnil es cc =>
    cases l with
    | arr base n' cap sz' =>
     cases base with
     | none => exact g2
     | some bo =>
      obtain ⟨b, o'⟩ := bo
      obtain ⟨k0, k1, k2, k3, k4, k5, k6, k7⟩ := g2
      refine ⟨k0, k1, k2, k3, k4, k5, hCA _ b o' (hcs b rfl) k6, fun j hj => ?_⟩
      obtain ⟨x, hx1, hx2⟩ := k7 j hj
      exact ⟨x, (World.cell?_of_block (w := w) (a := ⟨b, o' + j, none⟩) (hcs b rfl)).trans hx1, (World.frozen?_of_block (w := w) (a := ⟨b, o' + j, none⟩) (hcs b rfl)).trans hx2⟩
    | _ => exact g2
   | map ks vs =>
    cases l with
    | map b =>
     obtain ⟨es, clock, k1, k2, k3, k4, k5⟩ := g2
     exact ⟨es, clock, (hcs b rfl).trans k1, k2, k3.mono hext hlex, k4, k5⟩
    | _ => exact g2
   | iter nl ks vs seen =>
    cases l with
    | iter b => exact ItAt.mono g2 hext (hcs b rfl)
    | _ => exact g2
 ·rw [St.obj_upd, look_append]
  rcases hcase n with ⟨i, hi, he⟩ | ⟨i, hi, he⟩ | ⟨h1, h2, he⟩
  ·obtain ⟨o2, ho2'⟩ := look_zipO_mem (ns := σ) (os := objs2) (by omega) n (List.mem_of_getElem? hi)
   exact ⟨o2, by rw [ho2']; rfl⟩
  ·obtain ⟨o2, ho2'⟩ := look_zipO_mem (ns := news) (os := fresh2) (by omega) n (List.mem_of_getElem? hi)
   exact ⟨o2, by rw [look_zipO_none (hdisj n (List.mem_of_getElem? hi)), ho2']; rfl⟩
  ·rw [he] at hn
   obtain ⟨ob, hob⟩ := hM.dom n l hn
   exact ⟨ob, by rw [look_zipO_none h1, look_zipO_none h2, hob]; rfl⟩
 ·have hin : ∀ {i j m m' : Nat}, σ[i]? = some m → σ[j]? = some m' → PN + i = PN + j → m = m' := fun h1 h2 h3 => by
   have : _ = _ := Nat.add_left_cancel h3
   subst this; rw [h1] at h2; exact Option.some.inj h2
  have hio : ∀ {m : Nat} {k : Nat} {lk lm : Loc}, k ∉ σ → L k = some lk → lk.blk = some b → L2 m = some lm → lm.blk = some b → False := fun h1 h2 h3 h4 h5 => by
   rcases hL2 h4 h5 with h | ⟨o, l0, g1, g2, g3, _⟩
   ·have := hlt h2 h3; omega
   ·exact h1 (by rw [hM.inj _ o _ l0 b h2 g2 h3 g3]; exact g1)
  rcases hcase n with ⟨i, hi, he⟩ | ⟨i, hi, he⟩ | ⟨h1, h2, he⟩ <;> rcases hcase n' with ⟨i', hi', he'⟩ | ⟨i', hi', he'⟩ | ⟨h1', h2', he'⟩ <;> rw [he] at hn <;> rw [he'] at hn'
  ·exact hin hi hi' (hM2.inj _ _ _ _ _ hn hn' hb hb')
  ·have := hM2.inj _ _ _ _ _ hn hn' hb hb'
   have hil := (List.getElem?_eq_some_iff.1 hi).1
   simp only [PN, FN] at this
   omega
  ·exact (hio h1' hn' hb' hn hb).elim
  ·have := hM2.inj _ _ _ _ _ hn hn' hb hb'
   have hil := (List.getElem?_eq_some_iff.1 hi').1
   simp only [PN, FN] at this
   omega
  ·have := hM2.inj _ _ _ _ _ hn hn' hb hb'
   have : i = i' := by omega
   subst this; rw [hi] at hi'; exact Option.some.inj hi'
  ·exact (hio h1' hn' hb' hn hb).elim
  ·exact (hio h1 hn hb hn' hb').elim
  ·exact (hio h1 hn hb hn' hb').elim
  ·exact hM.inj _ _ _ _ _ hn hn' hb hb'
 ·have key : ∀ {m : Nat}, L2 m = some l → ¬ fr.X b ∧ ((fr.w0.heap.size ≤ b ∧ b < w'.heap.size) ∨ ∃ p ∈ fr.par, l.range = some p) := fun hm => by
   rcases hL2 hm hb with h | ⟨o, l0, g1, g2, g3, g4⟩
   ·refine ⟨fun hX => ?_, .inl ⟨Nat.le_trans hM.frame.size h.1, h.2⟩⟩
    have := hM.xLt b hX
    have := hM.frame.size
    omega
   ·obtain ⟨k1, k2⟩ := hM.place o l0 b g2 g3
    refine ⟨k1, ?_⟩
    rcases k2 with k2 | ⟨p, k3, k4⟩
    ·exact .inl ⟨k2.1, Nat.lt_of_lt_of_le k2.2 hsz⟩
    ·exact .inr ⟨p, k3, g4 ▸ k4⟩
  rcases hcase n with ⟨i, hi, he⟩ | ⟨i, hi, he⟩ | ⟨h1, h2, he⟩ <;> rw [he] at hn
  ·exact key hn
  ·exact key hn
  ·obtain ⟨k1, k2⟩ := hM.place n l b hn hb
   exact ⟨k1, k2.imp (fun h => ⟨h.1, Nat.lt_of_lt_of_le h.2 hsz⟩) id⟩
 ·rcases hcase n with ⟨i, hi, he⟩ | ⟨i, hi, he⟩ | ⟨h1, h2, he⟩ <;> rw [he] at hn
  ·exact hM2.kind _ l b hn hb
  ·exact hM2.kind _ l b hn hb
  ·have hb1 := blk_of_range hb
   exact (hM.kind n l b hn hb).to (hsame b.1 (hlt hn hb1) fun o ho l' hl' hb' => h1 (by rw [hM.inj n o l l' b.1 hn hl' hb1 hb']; exact ho)) id fun _ _ => rfl
 ·have hFr := hM.frame
  refine ⟨hF0.os.trans hFr.os, hF0.tape.trans hFr.tape, hF0.output.trans hFr.output, Nat.le_trans hFr.size hsz, fun b hb hn => ?_, fun p hp => ?_, hF0.glob, hFr.gpar⟩
  ·rw [hsame b (Nat.lt_of_lt_of_le hb hFr.size) fun o ho l hl hbl => ?_]
   ·exact hFr.block b hb hn
   ·rcases (hM.place o l b hl hbl).2 with h | ⟨p, h1, h2⟩
    ·omega
    ·have := blk_of_range h2
     rw [hbl] at this
     exact hn p h1 (Option.some.inj this).symm
  ·obtain ⟨o1, o1', g1, g2, g3⟩ := hFr.part p hp
   by_cases hq : ∃ q ∈ (callFr fr L w σ B).par, q.1 = p.1
   ·obtain ⟨q, hq1, hq2⟩ := hq
    obtain ⟨o, l, k1, k2, k3⟩ := (hpar q).1 hq1
    have hqp : q = p := by
     have hb := blk_of_range k3
     rcases (hM.place o l q.1 k2 hb).2 with h | ⟨p', h1, h2⟩
     ·have := hM.parLt.1 p hp; omega
     ·rw [k3] at h2; cases h2
      exact hM.parLt.2 _ h1 p hp hq2
    subst hqp
    obtain ⟨o2, o2', m1, m2, m3⟩ := hF0.part q hq1
    have m1' : w.heap[q.1]? = some o2 := m1
    rw [g2] at m1'; cases m1'
    exact ⟨o1, o2', g1, m2, g3.trans m3⟩
   ·refine ⟨o1, o1', g1, ?_, g3⟩
    rw [hF0.block p.1 (Nat.lt_of_lt_of_le (hM.parLt.1 p hp) hFr.size) (fun q hq1 hq2 => hq ⟨q, hq1, hq2⟩)]
    exact g2
 ·obtain ⟨x, h1, h2⟩ := hR.vals t p (by simpa using hp)
  exact ⟨x, h1, h2.mono hext hlex⟩
end
end Go.Sym
