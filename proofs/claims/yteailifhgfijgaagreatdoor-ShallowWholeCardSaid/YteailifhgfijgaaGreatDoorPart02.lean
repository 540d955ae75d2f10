/- A part of the proof: SymC. -/
import Derived.Test.YteailifhgfijgaaGreatDoorPart01
set_option linter.unusedVariables false
set_option linter.unusedSimpArgs false
namespace Go.Sym
open Go.RowKit
abbrev Ent := Nat × List Nat × Delta
def Chain (P : Program) [Globs P] (ops : Array Oper) : List Ent → St → St → Prop
 | [], S, S' => S.eqv S'
 | (i, rn, d) :: r, S, S' => ∃ o, ops[i]? = some o ∧ GStep P ops o S rn d ∧ Chain P ops r (S.app o.dst d) S'
def Ent.wn (e : Ent) : List Nat := e.2.2.objs.map (·.1)
theorem St.app_congr {S S₁ : St} (h : S.eqv S₁) (dst : Option Nat) (d : Delta) : (S.app dst d).eqv (S₁.app dst d) :=
 ⟨fun t => by simp only [St.app, St.get_put, St.get_upd, h.1 t], fun n => by simp only [St.app, St.obj_put, St.obj_upd, h.2 n]⟩
theorem Chain.congr {P : Program} [Globs P] {ops : Array Oper} : ∀ {l : List Ent} {S S₁ S' : St}, S.eqv S₁ → Chain P ops l S S' → Chain P ops l S₁ S'
 | [], _, _, _, he, h => he.symm.trans h
 | (i, rn, d) :: r, S, S₁, S', he, h => by
  obtain ⟨o, ho, hg, hc⟩ := h
  exact ⟨o, ho, hg.agree (fun t _ => (he.1 t).symm) (fun n _ => (he.2 n).symm), Chain.congr (St.app_congr he _ _) hc⟩
def Indep (ops : Array Oper) (x y : Ent) : Prop :=
 ∀ ox oy, ops[x.1]? = some ox → ops[y.1]? = some oy →
  ox.apart ops oy = true ∧ (∀ n ∈ x.wn, n ∉ y.2.1 ∧ n ∉ y.wn) ∧ (∀ n ∈ y.wn, n ∉ x.2.1)
theorem app_get_ne {S : St} {dst : Option Nat} {d : Delta} {t : Nat} (h : ∀ k, dst = some k → k ≠ t) : (S.app dst d).get t = S.get t := by
 simp only [St.app, St.get_put, St.get_upd]
 rw [if_neg (fun e => h t e rfl)]
theorem app_obj_ne {S : St} {dst : Option Nat} {d : Delta} {n : Nat} (h : n ∉ d.objs.map (·.1)) : (S.app dst d).obj n = S.obj n := by
 simp only [St.app, St.obj_put, St.obj_upd, look_none h, Option.none_or]
theorem app_comm {S : St} {dx dy : Option Nat} {x y : Delta} (hd : ∀ k, dx = some k → dy ≠ some k) (hn : ∀ n ∈ x.objs.map (·.1), n ∉ y.objs.map (·.1)) :
  ((S.app dx x).app dy y).eqv ((S.app dy y).app dx x) := by
 refine ⟨fun t => ?_, fun n => ?_⟩
 ·simp only [St.app, St.get_put, St.get_upd]
  by_cases h1 : dx = some t
  ·have := hd t h1
   simp [h1, this]
  ·simp [h1]
 ·simp only [St.app, St.obj_put, St.obj_upd]
  by_cases h1 : n ∈ x.objs.map (·.1)
  ·rw [look_none (hn n h1)]; simp
  ·rw [look_none h1]; simp
theorem Chain.swap {P : Program} [Globs P] {ops : Array Oper} {x y : Ent} {r : List Ent} {S S' : St} (hi : Indep ops x y) (h : Chain P ops (x :: y :: r) S S') : Chain P ops (y :: x :: r) S S' := by
 obtain ⟨ix, rx, dx⟩ := x
 obtain ⟨iy, ry, dy⟩ := y
 obtain ⟨ox, hox, hgx, oy, hoy, hgy, hc⟩ := h
 obtain ⟨hap, h1, h2⟩ := hi ox oy hox hoy
 obtain ⟨a1, a2, a3⟩ := Oper.apart_spec hap
 refine ⟨oy, hoy, hgy.agree (fun t ht => (app_get_ne ?_).symm) (fun n hn => (app_obj_ne (fun hm => (h1 n hm).1 hn)).symm), ox, hox,
  hgx.agree (fun t ht => app_get_ne ?_) (fun n hn => app_obj_ne (fun hm => h2 n hm hn)), hc.congr (app_comm a2 (fun n hm => (h1 n hm).2))⟩
 ·rintro k hk rfl
  exact a1 k hk ht
 ·rintro k hk rfl
  exact a3 k hk ht
theorem Chain.front {P : Program} [Globs P] {ops : Array Oper} {x : Ent} {post : List Ent} {S' : St} : ∀ {pre : List Ent} {S : St}, (∀ y ∈ pre, Indep ops y x) →
  Chain P ops (pre ++ x :: post) S S' → Chain P ops (x :: (pre ++ post)) S S'
 | [], _, _, h => h
 | y :: pre, S, hi, h => by
  have h' : ∃ o, ops[y.1]? = some o ∧ GStep P ops o S y.2.1 y.2.2 ∧ Chain P ops (pre ++ x :: post) (S.app o.dst y.2.2) S' := h
  obtain ⟨o, ho, hg, hc⟩ := h'
  have hc' := Chain.front (fun z hz => hi z (by simp [hz])) hc
  have : Chain P ops (y :: x :: (pre ++ post)) S S' := ⟨o, ho, hg, hc'⟩
  exact this.swap (hi y (by simp))
def dstsB (nt : Nat) : List Oper → Bool
 | [] => true
 | o :: r => (match o.dst with | some d => Nat.blt d nt | none => true) && dstsB nt r
def dstsBelow (ops : Array Oper) (nt : Nat) : Bool := dstsB nt ops.toList
theorem dstsB_spec {nt : Nat} : ∀ {l : List Oper} {i d : Nat} {o : Oper}, dstsB nt l = true → l[i]? = some o → o.dst = some d → d < nt
 | [], i, _, _, _, hi, _ => by simp at hi
 | x :: r, 0, d, o, h, hi, hd => by
  simp at hi; subst hi
  simp only [dstsB, Bool.and_eq_true] at h
  have := h.1
  rw [hd] at this
  simpa [Nat.blt_eq] using this
 | x :: r, i + 1, d, o, h, hi, hd => by
  simp only [dstsB, Bool.and_eq_true] at h
  exact dstsB_spec h.2 (by simpa using hi) hd
theorem dstsBelow_spec {ops : Array Oper} {nt i d : Nat} {o : Oper} (h : dstsBelow ops nt = true) (hi : ops[i]? = some o) (hd : o.dst = some d) : d < nt :=
 dstsB_spec h (by rw [Array.getElem?_toList]; exact hi) hd
theorem wpOps_of_chain {P : Program} [Globs P] {ops : Array Oper} {fr : Fr} {Q : Exit → Act → World → Prop} (hb : dstsBelow ops fr.nt = true) (hG : fr.gl = Globs.gl P) :
  ∀ (l : List Ent) {S S' : St} {L : LMap} {a : Act} {w : World}, Chain P ops l S S' → R fr S L a w → (∀ L' a' w', R fr S' L' a' w' → Q .normal a' w') →
   wpOps P ops Q (l.map (·.1)) a w
 | [], S, S', L, a, w, hc, hR, hQ => hQ L a w (hR.eqv hc)
 | (i, rn, d) :: r, S, S', L, a, w, hc, hR, hQ => by
  obtain ⟨o, ho, hg, hc'⟩ := hc
  rw [List.map_cons, wpOps_cons]
  exact hg.sound hR hG (fun k hk => dstsBelow_spec hb ho hk) ho Q _ (fun L' a' w' h' => wpOps_of_chain hb hG r hc' h' hQ)
theorem wp_chain {P : Program} [Globs P] {ops : Array Oper} {fr : Fr} {id : Nat} {Q : Exit → Act → World → Prop} {l : List Ent} {S S' : St} {L : LMap} {a : Act} {w : World}
  (hb : dstsBelow ops fr.nt = true) (hG : fr.gl = Globs.gl P) (hl : l.map (·.1) = List.range ops.size) (hc : Chain P ops l S S') (hR : R fr S L a w)
  (hQ : ∀ L' a' w', R fr S' L' a' w' → Q .normal a' w') : (Code.region id ops false).wp P Q a w :=
 wp_region (hl ▸ wpOps_of_chain hb hG l hc hR hQ)
def maskOf (M : List Nat) (o : Oper) : Nat := o.after.toList.foldl (fun s e => if Region.binds .any e then s ||| 2 ^ e.on ||| M.getD e.on 0 else s) 0
def maskOk (M : List Nat) : Nat → List Oper → Bool
 | _, [] => true
 | i, o :: r => o.after.toList.all (fun e => !Region.binds .any e || decide (e.on < i)) && Nat.beq (M.getD i 0) (maskOf M o) && maskOk M (i + 1) r
theorem mask_fold (M : List Nat) (j : Nat) : ∀ (l : List Edge) (s : Nat), (l.foldl (fun s e => if Region.binds .any e then s ||| 2 ^ e.on ||| M.getD e.on 0 else s) s).testBit j = true →
  s.testBit j = true ∨ ∃ e ∈ l, Region.binds .any e = true ∧ (e.on = j ∨ (M.getD e.on 0).testBit j = true)
 | [], s, h => .inl h
 | e :: l, s, h => by
  rw [List.foldl_cons] at h
  rcases mask_fold M j l _ h with h1 | ⟨e', he', hb, hx⟩
  ·split at h1
   ·rename_i hb
    rw [Nat.testBit_or, Nat.testBit_or] at h1
    simp only [Bool.or_eq_true] at h1
    rcases h1 with (h1 | h1) | h1
    ·exact .inl h1
    ·rw [Nat.testBit_two_pow] at h1
     exact .inr ⟨e, by simp, hb, .inl (by simpa using h1)⟩
    ·exact .inr ⟨e, by simp, hb, .inr h1⟩
   ·exact .inl h1
  ·exact .inr ⟨e', by simp [he'], hb, hx⟩
theorem maskOk_spec {M : List Nat} : ∀ {l : List Oper} {k : Nat}, maskOk M k l = true → ∀ i o, l[i]? = some o →
  (∀ e ∈ o.after, Region.binds .any e = true → e.on < k + i) ∧ M.getD (k + i) 0 = maskOf M o
 | [], _, _, i, o, h => by simp at h
 | x :: r, k, hk, i, o, h => by
  simp only [maskOk, Bool.and_eq_true] at hk
  obtain ⟨⟨h1, h2⟩, h3⟩ := hk
  cases i with
  | zero =>
   simp at h; subst h
   refine ⟨fun e he hb => ?_, Nat.eq_of_beq_eq_true h2⟩
   have := (List.all_eq_true.1 h1) e (Array.mem_toList_iff.2 he)
   rw [hb] at this
   simpa using this
  | succ i =>
   have := maskOk_spec h3 i o (by simpa using h)
   rw [show k + (i + 1) = k + 1 + i by omega]
   exact this
def pairOk (ops : Array Oper) (M : List Nat) (i : Nat) (oi : Oper) (ni : List Nat × List Nat) (j : Nat) (oj : Oper) (nj : List Nat × List Nat) : Bool :=
 (M.getD i 0).testBit j || (oj.apart ops oi && nj.2.all (fun n => !ni.1.contains n && !ni.2.contains n) && ni.2.all (fun n => !nj.1.contains n))
def rowPairs (ops : Array Oper) (M : List Nat) (i : Nat) (oi : Oper) (ni : List Nat × List Nat) : Nat → List Oper → List (List Nat × List Nat) → Bool
 | j, oj :: r, nj :: s => pairOk ops M i oi ni j oj nj && rowPairs ops M i oi ni (j + 1) r s
 | _, _, _ => true
def allPairs (ops : Array Oper) (M : List Nat) (lo : List Oper) (ln : List (List Nat × List Nat)) : Nat → List Oper → List (List Nat × List Nat) → Bool
 | i, oi :: r, ni :: s => rowPairs ops M i oi ni 0 (lo.take i) (ln.take i) && allPairs ops M lo ln (i + 1) r s
 | _, _, _ => true
theorem rowPairs_spec {ops : Array Oper} {M : List Nat} {i : Nat} {oi : Oper} {ni : List Nat × List Nat} : ∀ {r : List Oper} {s : List (List Nat × List Nat)} {k : Nat}, rowPairs ops M i oi ni k r s = true →
  ∀ j oj nj, r[j]? = some oj → s[j]? = some nj → pairOk ops M i oi ni (k + j) oj nj = true
 | [], _, _, _, j, _, _, h, _ => by simp at h
 | _ :: _, [], _, _, j, _, _, _, h => by simp at h
 | x :: r, y :: s, k, h, j, oj, nj, h1, h2 => by
  simp only [rowPairs, Bool.and_eq_true] at h
  cases j with
  | zero => simp at h1 h2; subst h1; subst h2; exact h.1
  | succ j =>
   have := rowPairs_spec h.2 j oj nj (by simpa using h1) (by simpa using h2)
   rw [show k + (j + 1) = k + 1 + j by omega]
   exact this
theorem allPairs_spec {ops : Array Oper} {M : List Nat} {lo : List Oper} {ln : List (List Nat × List Nat)} : ∀ {r : List Oper} {s : List (List Nat × List Nat)} {k : Nat}, allPairs ops M lo ln k r s = true →
  ∀ i oi ni, r[i]? = some oi → s[i]? = some ni → ∀ j oj nj, j < k + i → lo[j]? = some oj → ln[j]? = some nj → pairOk ops M (k + i) oi ni j oj nj = true
 | [], _, _, _, i, _, _, h, _, _, _, _, _, _, _ => by simp at h
 | _ :: _, [], _, _, i, _, _, _, h, _, _, _, _, _, _ => by simp at h
 | x :: r, y :: s, k, h, i, oi, ni, h1, h2, j, oj, nj, hj, h3, h4 => by
  simp only [allPairs, Bool.and_eq_true] at h
  cases i with
  | zero =>
   simp at h1 h2; subst h1; subst h2
   have hj' : j < k := by omega
   have := rowPairs_spec h.1 j oj nj (by rw [List.getElem?_take]; simp [hj', h3]) (by rw [List.getElem?_take]; simp [hj', h4])
   simpa using this
  | succ i =>
   have := allPairs_spec h.2 i oi ni (by simpa using h1) (by simpa using h2) j oj nj (by omega) h3 h4
   rw [show k + (i + 1) = k + 1 + i by omega]
   exact this
def drawOk (ops : Array Oper) (N : List (List Nat × List Nat)) : Bool :=
 let M := (Region.before ops).toList
 maskOk M 0 ops.toList && allPairs ops M ops.toList N 0 ops.toList N
def Ent.names (e : Ent) : List Nat × List Nat := (e.2.1, e.wn)
theorem getD_any {l : Array Bool} {i : Nat} (h : i < l.size) (a b : Bool) : l.getD i a = l.getD i b := by simp [Array.getD, h]
section
variable {P : Program} {ops : Array Oper} {fr : Fr} {Q : Exit → Act → World → Prop}
theorem wpAny_of_chain [Globs P] {es : List Ent} (hb : dstsBelow ops fr.nt = true) (hG : fr.gl = Globs.gl P) (hl : es.map (·.1) = List.range ops.size) (hd : drawOk ops (es.map Ent.names) = true) {S' : St}
  (hQ : ∀ L' a' w', R fr S' L' a' w' → Q .normal a' w') : ∀ (fuel : Nat) (listed : Array Bool) (rem : List Ent) (S : St) (L : LMap) (a : Act) (w : World),
   listed.size = ops.size → rem.length = fuel → rem.Sublist es → (∀ i, i < ops.size → (listed.getD i true = false ↔ ∃ e ∈ rem, e.1 = i)) →
   (∀ i o e, ops[i]? = some o → listed.getD i true = true → e ∈ o.after → Region.binds .any e = true → listed.getD e.on false = true) →
   Chain P ops rem S S' → R fr S L a w → wpAny P .any ops Q fuel listed a w := by
 simp only [drawOk, Bool.and_eq_true] at hd
 obtain ⟨hm, hp⟩ := hd
 generalize (Region.before ops).toList = M at hm hp
 have hnd : (es.map (·.1)).Nodup := by rw [hl]; exact List.nodup_range
 have hsz : ∀ e ∈ es, e.1 < ops.size := fun e he => by
  have : e.1 ∈ es.map (·.1) := List.mem_map_of_mem he
  rw [hl] at this; simpa using this
 have hes : ∀ i, i < ops.size → ∃ e, es[i]? = some e ∧ e.1 = i := fun i hi => by
  have h1 : (es.map (·.1))[i]? = some i := by rw [hl]; simp [hi]
  rw [List.getElem?_map] at h1
  cases h2 : es[i]? with
  | none => rw [h2] at h1; simp at h1
  | some e => rw [h2] at h1; simp at h1; exact ⟨e, rfl, h1⟩
 have hpos : ∀ e ∈ es, es[e.1]? = some e := fun e he => by
  obtain ⟨k, hk, hke⟩ := List.getElem_of_mem he
  have : (es.map (·.1))[k]? = some e.1 := by rw [List.getElem?_map, List.getElem?_eq_getElem hk, hke]; rfl
  rw [hl] at this
  have hlen : es.length = ops.size := by simpa using congrArg List.length hl
  rw [List.getElem?_range (by omega)] at this
  simp at this
  rw [← this, List.getElem?_eq_getElem hk, hke]
 have hdown : ∀ (listed : Array Bool), (∀ i o e, ops[i]? = some o → listed.getD i true = true → e ∈ o.after → Region.binds .any e = true → listed.getD e.on false = true) → listed.size = ops.size →
   ∀ i o, ops[i]? = some o → (∀ e ∈ o.after, Region.binds .any e = true → listed.getD e.on false = true) → ∀ j, (M.getD i 0).testBit j = true → listed.getD j false = true := by
  intro listed hc hs i
  induction i using Nat.strongRecOn with
  | _ i ih =>
   intro o ho hall j hj
   have sp := maskOk_spec hm i o (by simpa using ho)
   rw [Nat.zero_add] at sp
   rw [sp.2] at hj
   rcases mask_fold M j _ _ hj with h0 | ⟨e, he, hbd, hx⟩
   ·simp at h0
   ·have he' : e ∈ o.after := Array.mem_toList_iff.1 he
    have hle := hall e he' hbd
    rcases hx with hx | hx
    ·subst hx; exact hle
    ·have hlt := sp.1 e he' hbd
     have hon : e.on < ops.size := by
      rcases Nat.lt_or_ge e.on listed.size with h' | h'
      ·omega
      ·simp [Array.getD, Nat.not_lt.2 h'] at hle
     have hon' : ops[e.on]? = some ops[e.on] := Array.getElem?_eq_getElem hon
     refine ih e.on hlt _ hon' (fun e2 he2 hb2 => hc e.on _ e2 hon' ?_ he2 hb2) j hx
     have : e.on < listed.size := by omega
     simpa [Array.getD, this] using hle
 intro fuel
 induction fuel with
 | zero =>
  intro listed rem S L a w hs hlen hsub hlis hcl hc hR
  have hr : rem = [] := List.eq_nil_of_length_eq_zero hlen
  subst hr
  refine ⟨?_, hQ L a w (hR.eqv hc)⟩
  unfold Region.ready
  rw [List.filter_eq_nil_iff]
  intro i hi hx
  simp only [Bool.and_eq_true] at hx
  have hi' : i < ops.size := by simpa using hi
  have h2 : listed.getD i true = false := by simpa using hx.1
  obtain ⟨e, he, _⟩ := (hlis i hi').1 h2
  simp at he
 | succ fuel ih =>
  intro listed rem S L a w hs hlen hsub hlis hcl hc hR
  have hmemready : ∀ i, i ∈ Region.ready .any ops listed → i < ops.size ∧ listed.getD i true = false ∧ ∃ o, ops[i]? = some o ∧ ∀ e ∈ o.after, Region.binds .any e = true → listed.getD e.on false = true := by
   intro i hi
   unfold Region.ready at hi
   rw [List.mem_filter] at hi
   obtain ⟨hi1, hi2⟩ := hi
   simp only [Bool.and_eq_true] at hi2
   have hi' : i < ops.size := by simpa using hi1
   refine ⟨hi', by simpa using hi2.1, ops[i], Array.getElem?_eq_getElem hi', fun e he hbd => ?_⟩
   have h3 := hi2.2
   rw [Array.getElem?_eq_getElem hi'] at h3
   simp only [Option.map_some, Option.getD_some] at h3
   rw [Array.all_eq_true'] at h3
   have := h3 e he
   rw [hbd] at this
   simpa using this
  refine ⟨fun hnil => ?_, fun i hi => ?_⟩
  ·exfalso
   cases hrem : rem with
   | nil => rw [hrem] at hlen; simp at hlen
   | cons x r =>
    have hxm : x ∈ rem := by rw [hrem]; simp
    have hxes : x ∈ es := hsub.subset hxm
    have hxlt := hsz x hxes
    have hox : ops[x.1]? = some ops[x.1] := Array.getElem?_eq_getElem hxlt
    have sp := maskOk_spec hm x.1 _ (by rw [Array.getElem?_toList]; exact hox)
    have : x.1 ∈ Region.ready .any ops listed := by
     unfold Region.ready
     rw [List.mem_filter]
     refine ⟨by simpa using hxlt, ?_⟩
     simp only [Bool.and_eq_true]
     refine ⟨by have := (hlis x.1 hxlt).2 ⟨x, hxm, rfl⟩; simp [this], ?_⟩
     rw [hox]
     simp only [Option.map_some, Option.getD_some]
     rw [Array.all_eq_true']
     intro e he
     by_cases hbd : Region.binds .any e = true
     ·rw [hbd]
      have hlt : e.on < x.1 := by have := sp.1 e he hbd; omega
      cases hL : listed.getD e.on true with
      | true =>
       have hsz2 : e.on < listed.size := by omega
       simpa [Array.getD, hsz2] using hL
      | false =>
       exfalso
       obtain ⟨y, hy, hyx⟩ := (hlis e.on (by omega)).1 hL
       have hpw : (rem.map (·.1)).Pairwise (· < ·) := by
        have h5 : (rem.map (·.1)).Sublist (es.map (·.1)) := hsub.map _
        rw [hl] at h5
        exact (List.pairwise_lt_range).sublist h5
       rw [hrem] at hpw hy
       simp only [List.map_cons, List.pairwise_cons] at hpw
       rcases List.mem_cons.1 hy with rfl | hy'
       ·omega
       ·have := hpw.1 y.1 (List.mem_map_of_mem hy'); omega
     ·simp [hbd]
    rw [hnil] at this
    simp at this
  ·obtain ⟨hi', hun, o, ho, hpre⟩ := hmemready i hi
   obtain ⟨x, hx, hxi⟩ := (hlis i hi').1 hun
   obtain ⟨pre, post, hsplit⟩ := List.append_of_mem hx
   subst hxi
   have hxes : x ∈ es := hsub.subset hx
   have hpw : (rem.map (·.1)).Pairwise (· < ·) := by
    have h5 : (rem.map (·.1)).Sublist (es.map (·.1)) := hsub.map _
    rw [hl] at h5
    exact (List.pairwise_lt_range).sublist h5
   have hlt : ∀ y ∈ pre, y.1 < x.1 := by
    rw [hsplit, List.map_append, List.pairwise_append] at hpw
    intro y hy
    exact hpw.2.2 y.1 (List.mem_map_of_mem hy) x.1 (by simp)
   have hind : ∀ y ∈ pre, Indep ops y x := by
    intro y hy oy ox hoy hox
    have hyr : y ∈ rem := by rw [hsplit]; simp [hy]
    have hyes : y ∈ es := hsub.subset hyr
    have hpk := allPairs_spec hp x.1 ox x.names (by simpa using hox) (by rw [List.getElem?_map, hpos x hxes]; rfl) y.1 oy y.names (by have := hlt y hy; omega) (by simpa using hoy) (by rw [List.getElem?_map, hpos y hyes]; rfl)
    rw [Nat.zero_add] at hpk
    simp only [pairOk, Bool.or_eq_true, Bool.and_eq_true] at hpk
    rcases hpk with hbit | ⟨⟨hap, h1⟩, h2⟩
    ·exfalso
     rw [ho] at hox
     have := hdown listed hcl hs x.1 o ho hpre y.1 hbit
     have hun2 := (hlis y.1 (hsz y hyes)).2 ⟨y, hyr, rfl⟩
     have hlt3 : y.1 < listed.size := by rw [hs]; exact hsz y hyes
     rw [getD_any hlt3 false true, hun2] at this
     exact Bool.noConfusion this
    ·refine ⟨hap, fun n hn => ?_, fun n hn => ?_⟩
     ·have := (List.all_eq_true.1 h1) n hn
      simpa [Ent.names] using this
     ·have := (List.all_eq_true.1 h2) n hn
      simpa [Ent.names] using this
   rw [hsplit] at hc
   have hc' := Chain.front hind hc
   obtain ⟨ix, rx, dx⟩ := x
   obtain ⟨o', ho', hg, hc2⟩ := hc'
   have hoo : o' = o := by rw [ho] at ho'; simpa using ho'.symm
   subst hoo
   refine hg.sound hR hG (fun k hk => dstsBelow_spec hb ho' hk) ho Q _ (fun L' a' w' h' => ?_)
   have hpp : (pre ++ post).Sublist rem := by rw [hsplit]; exact List.Sublist.append (List.Sublist.refl _) (List.sublist_cons_self _ _)
   have hnr : (rem.map (·.1)).Nodup := hnd.sublist (hsub.map _)
   refine ih (listed.setIfInBounds ix true) (pre ++ post) _ L' a' w' (by simpa using hs) ?_ (hpp.trans hsub) (fun k hk => ?_) (fun k ok e hok hkl he hbd => ?_) hc2 h'
   ·rw [hsplit] at hlen; simp at hlen ⊢; omega
   ·by_cases hki : ix = k
    ·subst hki
     have hlt' : ix < listed.size := by omega
     simp only [Array.getD, Array.size_setIfInBounds, hlt', dite_true]
     simp only [Array.getInternal_eq_getElem, Array.getElem_setIfInBounds_self, Bool.true_eq_false, false_iff, not_exists, not_and]
     intro y hy hyx
     rw [hsplit, List.map_append, List.map_cons, List.nodup_append] at hnr
     rcases List.mem_append.1 hy with h6 | h6
     ·exact hnr.2.2 y.1 (List.mem_map_of_mem h6) ix (by simp) hyx
     ·have := (List.nodup_cons.1 hnr.2.1).1
      have h7 := List.mem_map_of_mem (f := fun e : Ent => e.1) h6
      rw [show y.1 = ix from hyx] at h7
      exact this h7
    ·have e1 : (listed.setIfInBounds ix true).getD k true = listed.getD k true := by
      simp only [Array.getD_eq_getD_getElem?]
      rw [Array.getElem?_setIfInBounds_ne hki]
     rw [e1, hlis k hk, hsplit]
     constructor
     ·rintro ⟨y, hy, rfl⟩
      simp at hy
      rcases hy with h6 | h6 | h6
      ·exact ⟨y, by simp [h6], rfl⟩
      ·exact absurd (by rw [h6]) hki
      ·exact ⟨y, by simp [h6], rfl⟩
     ·rintro ⟨y, hy, rfl⟩
      refine ⟨y, ?_, rfl⟩
      simp at hy ⊢
      rcases hy with h6 | h6 <;> simp [h6]
   ·have e2 : ∀ m, listed.getD m false = true → (listed.setIfInBounds ix true).getD m false = true := by
     intro m hm2
     by_cases hmi : ix = m
     ·subst hmi
      have hlt' : ix < listed.size := by omega
      simp [Array.getD, hlt']
     ·simp only [Array.getD_eq_getD_getElem?] at hm2 ⊢
      rw [Array.getElem?_setIfInBounds_ne hmi]; exact hm2
    refine e2 _ ?_
    by_cases hki : ix = k
    ·subst hki
     rw [ho] at hok
     simp at hok
     subst hok
     exact hpre e he hbd
    ·have e1 : (listed.setIfInBounds ix true).getD k true = listed.getD k true := by
      simp only [Array.getD_eq_getD_getElem?]
      rw [Array.getElem?_setIfInBounds_ne hki]
     rw [e1] at hkl
     exact hcl k ok e hok hkl he hbd
theorem wp_chain_draw [Globs P] {es : List Ent} {id : Nat} {S S' : St} {L : LMap} {a : Act} {w : World} (hmo : P.follows .mixedOrders = true)
  (hb : dstsBelow ops fr.nt = true) (hG : fr.gl = Globs.gl P) (hl : es.map (·.1) = List.range ops.size) (hd : drawOk ops (es.map Ent.names) = true) (hc : Chain P ops es S S') (hR : R fr S L a { w with drawn := w.drawn + 1 })
  (hQ : ∀ L' a' w', R fr S' L' a' w' → Q .normal a' w') : (Code.region id ops true).wp P Q a w := by
 refine wp_region_any hmo (wpAny_of_chain hb hG hl hd hQ ops.size _ es S L a _ (by simp) ?_ (List.Sublist.refl _) (fun i hi => ?_) (fun i o e ho hli => ?_) hc hR)
 ·simpa using congrArg List.length hl
 ·simp only [Array.getD, Array.size_replicate, hi, dite_true]
  simp only [Array.getInternal_eq_getElem, Array.getElem_replicate, true_iff]
  have : i ∈ es.map (·.1) := by rw [hl]; simpa using hi
  simpa using this
 ·exfalso
  have hi : i < ops.size := by
   rcases Nat.lt_or_ge i ops.size with h' | h'
   ·exact h'
   ·simp [Array.getElem?_eq_none h'] at ho
  simp [Array.getD, hi] at hli
end
end Go.Sym
