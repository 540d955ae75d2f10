/- A part of the proof: Ta8, Hcl, GRea, Hso, Hn. -/
import Derived.Test.YtbnnmnbidkpmcaaGreatDoorPart35
set_option linter.unusedVariables false
set_option linter.unusedSimpArgs false
namespace Go.Proofs.Tryz
open Go Go.Sym Go.Graft
set_option maxRecDepth 20000
abbrev perX : Per := ⟨[97], [97, 64, 98], 5, 60⟩
theorem cPerson : Ctr prog 38 [] [] (.agg [sV [97], sV [97, 64, 98], iV 5, iV 60]) [] [] := by
  refine Ctr.enter tblOk func38 rfl (by decide) rfl (nt := 2) rfl rfl rfl rfl ?_
  refine Trip.seq ?_
  apply Trip.reg tblOk
  · repeat' (first | exact rfl | constructor)
  · exact rfl
  refine Trip.seq ?_
  apply Trip.reg tblOk
  · repeat' (first | exact rfl | constructor)
  · exact rfl
  refine Trip.ret ?_
  apply Ret1 []
  · repeat' (first | exact rfl | constructor)
  · exact rfl
  · repeat' constructor
theorem cNum5 : Ctr prog 106 [iV 5] [] (sV [53]) [] [] := by
  refine Ctr.enter tblOk func106 rfl (by decide) rfl (nt := 23) rfl rfl rfl rfl ?_
  refine Trip.seq ?_
  apply Trip.reg tblOk
  · repeat' constructor
  · exact rfl
  refine Trip.seq ?_
  apply Trip.reg tblOk
  · repeat' constructor
  · exact rfl
  refine Trip.seq ?_
  refine Trip.block ?_
  apply Trip.loop (fun (_ : Nat) => ⟨[(0, iV 5), (3, sV [])], []⟩) (fun (_ : Nat) => True) (fun (_ : Nat) => 0) (0)
  · trivial
  · apply Weak.keep
    · exact rfl
    · repeat' (first | exact rfl | constructor)
    · repeat' constructor
    · exact rfl
    · repeat' constructor
  intro i _
  refine Trip.seq ?_
  refine Trip.seq ?_
  apply Trip.reg tblOk
  · repeat' (first | exact rfl | constructor)
  · exact rfl
  apply Trip.cond (.tmp rfl)
  · intro h
    exact absurd h (by decide)
  intro h
  refine Trip.exit ?_
  refine Trip.seq ?_
  apply Trip.reg tblOk
  · repeat' (first | exact rfl | (apply Rule.sem; intro hγ; with_reducible apply F_bytesToString (dst := some 20) (l := [53]) tblOk hγ) | ((with_reducible refine Side.mk ?_); first | omega | (simp only [ln]; first | done | omega)) | constructor)
  · exact rfl
  refine Trip.ret ?_
  apply Ret1 []
  · repeat' (first | exact rfl | constructor)
  · exact rfl
  · repeat' constructor
abbrev whoX : Str := [97, 32, 60, 97, 64, 98, 62, 32, 53, 32, 43, 48, 49, 48, 48]
theorem cWhoX : Ctr prog 68 [.agg [sV [97], sV [97, 64, 98], iV 5, iV 60]] [] (sV whoX) [] [] := by
  have c := cNum5
  refine Ctr.enter tblOk func68 rfl (by decide) rfl (nt := 48) rfl rfl rfl rfl ?_
  refine Trip.seq ?_
  apply Trip.reg tblOk
  · repeat' (first | exact rfl | constructor)
  · exact rfl
  apply Trip.drwk ⟨[(1, .ref 1 0), (3, sV [43]), (4, iV 60)], [(1, .box [sV [97], sV [97, 64, 98], iV 5, iV 60])]⟩ tblOk mixed
  · repeat' (first | exact rfl | constructor)
  · exact rfl
  · kernel_rfl
  · apply Weak.keep
    · exact rfl
    · repeat' (first | exact rfl | constructor)
    · repeat' (first | exact rfl | constructor)
    · exact rfl
    · repeat' (first | exact rfl | constructor)
  refine Trip.seq ?_
  refine Trip.seq ?_
  apply Trip.reg tblOk
  · repeat' (first | exact rfl | constructor)
  · exact rfl
  apply Trip.cond (.tmp rfl)
  · intro h
    exact absurd h (by decide)
  intro h
  refine Trip.skip ?_
  refine Trip.seq ?_
  apply Trip.reg tblOk
  · repeat' (first | exact rfl | (apply Rule.sem; intro hγ; with_reducible apply F_bytesToString (dst := some 31) (l := [48, 49, 48, 48]) tblOk hγ) | ((with_reducible refine Side.mk ?_); omega) | constructor)
  · exact rfl
  refine Trip.seq ?_
  apply Trip.drw tblOk mixed
  · repeat' (first | exact rfl | (apply Rule.sem; intro hγ; with_reducible apply F_call0 (x := .func 106) (B := []) hγ (hspec := c)) | ((with_reducible refine Side.mk ?_); first | exact .inl rfl | (simp only [ln]; first | done | omega)) | constructor)
  · exact rfl
  · kernel_rfl
  refine Trip.ret ?_
  apply Ret1 []
  · repeat' (first | exact rfl | constructor)
  · exact rfl
  · repeat' constructor
def bodyX (t : Str) : Str := [116, 114, 101, 101, 32] ++ t ++ [10] ++ [97, 117, 116, 104, 111, 114, 32] ++ whoX ++ [10, 99, 111, 109, 109, 105, 116, 116, 101, 114, 32] ++ whoX ++ [10, 10] ++ [120, 10]
abbrev comX (t : Str) : Com := ⟨t, [], perX, perX, [120, 10]⟩
theorem cBodyX (t : Str) (hl : t.length ≤ 1000) (hc : comE (comX t) = 0) : Ctr prog 37 [(comX t).pv true] [] (.tup [sV (bodyX t), iV 0]) [] [] := by
  have c1 := cComE16 true (comX t) (by dsimp only; omega) (by simp) (by simp) (by simp) (by simp) (by simp)
  rw [hc] at c1
  have c2 := cWhoX
  have hWl : whoX.length = 15 := rfl
  rw [bodyX]
  generalize whoX = W at *
  refine Ctr.enter tblOk func37 rfl (by decide) rfl (nt := 47) rfl rfl rfl rfl ?_
  refine Trip.seq ?_
  apply Trip.reg tblOk
  · repeat' (first | exact rfl | constructor)
  · exact rfl
  refine Trip.seq ?_
  apply Trip.reg tblOk
  · repeat' (first | exact rfl | (apply Rule.sem; intro hγ; with_reducible apply F_call0 (x := .func 67) (B := []) hγ (hspec := c1)) | ((with_reducible refine Side.mk ?_); exact .inl rfl) | constructor)
  · exact rfl
  refine Trip.seq ?_
  refine Trip.seq ?_
  apply Trip.reg tblOk
  · repeat' (first | exact rfl | constructor)
  · exact rfl
  apply Trip.cond (.tmp rfl)
  · intro h
    exact absurd h (by decide)
  intro h
  refine Trip.skip ?_
  refine Trip.seq ?_
  apply Trip.reg tblOk
  · repeat' (first | exact rfl | ((with_reducible refine Side.mk ?_); (simp only [ln]; first | done | omega)) | constructor)
  · exact rfl
  refine Trip.seq ?_
  refine Trip.seq ?_
  apply Trip.reg tblOk
  · repeat' constructor
  · exact rfl
  refine Trip.block ?_
  apply Trip.loop (fun (_ : Nat) => ⟨[(1, .ref 1 0), (5, sV ([116, 114, 101, 101, 32] ++ t ++ [10])), (6, iV 0)], [(1, .box [sV t, .sl true 1 [], sV [97], sV [97, 64, 98], iV 5, iV 60, sV [97], sV [97, 64, 98], iV 5, iV 60, sV [120, 10]])]⟩) (fun (_ : Nat) => True) (fun (_ : Nat) => 0) (0)
  · trivial
  · apply Weak.keep
    · exact rfl
    · repeat' (first | exact rfl | constructor)
    · repeat' (first | exact rfl | constructor)
    · exact rfl
    · repeat' (first | exact rfl | constructor)
  intro i _
  refine Trip.seq ?_
  refine Trip.seq ?_
  apply Trip.reg tblOk
  · repeat' (first | exact rfl | constructor)
  · exact rfl
  apply Trip.cond (.tmp rfl)
  · intro h
    exact absurd h (by decide)
  intro h
  refine Trip.exit ?_
  refine Trip.seq ?_
  apply Trip.drw tblOk mixed
  · repeat' (first | exact rfl | (apply Rule.sem; intro hγ; with_reducible apply F_call0 (dst := some 36) (x := .func 68) (B := []) hγ (hspec := c2)) | (apply Rule.sem; intro hγ; with_reducible apply F_call0 (dst := some 41) (x := .func 68) (B := []) hγ (hspec := c2)) | ((with_reducible refine Side.mk ?_); first | exact .inl rfl | (simp only [ln]; first | done | omega)) | constructor)
  · exact rfl
  · kernel_rfl
  refine Trip.ret ?_
  apply Ret2 []
  · repeat' (first | exact rfl | constructor)
  · exact rfl
  · repeat' constructor
  · repeat' constructor
end Go.Proofs.Tryz
namespace Go.Proofs.Tryz
open Go Go.Sym Go.Graft
set_option maxRecDepth 20000
set_option maxHeartbeats 400000 in
theorem cClone (nl : Bool) (es : List PV) (hnl : nl = true → es = []) (hp : plainL es = true) (hc : cellsOkL (cellsOf es) = true) (hb : es.length ≤ 1000000000000) :
    Ctr prog 45 [.sl nl 3 es] [] (.osl FN 0 es.length es.length) [] [.arr 3 nl es] := by
  refine Ctr.enter tblOk func45 rfl (by decide) rfl (nt := 8) rfl rfl rfl rfl ?_
  refine Trip.seq ?_
  apply Trip.reg tblOk
  · repeat' (first | exact rfl | constructor)
  · exact rfl
  refine Trip.seq ?_
  refine Trip.seq ?_
  apply Trip.reg tblOk
  · repeat' (first | exact rfl | constructor)
  · exact rfl
  apply Trip.cond (.tmp rfl)
  · intro hn
    have := hnl hn
    subst this
    subst hn
    refine Trip.seq ?_
    apply Trip.reg tblOk
    · repeat' (first | exact rfl | constructor)
    · exact rfl
    apply Trip.weak (Weak.adopt (t' := [(2, .osl 900 0 0 0)]) (o' := []) 900 3 rfl rfl (by repeat' (first | exact rfl | constructor)) (by repeat' (first | exact rfl | constructor)))
    refine Trip.ret ?_
    refine ⟨_, _, [900], [], [], [.arr 3 true []], .cons rfl .nil, .one, .nil, .cons rfl .nil, rfl, rfl, rfl, .nil, ?_, ?_⟩
    all_goals repeat' (first | exact rfl | constructor)
  · intro hn
    have hn : nl = false := hn
    subst hn
    refine Trip.skip ?_
    apply Trip.regk ⟨[(2, .osl 5 0 es.length es.length)], [(5, .arr 3 false es)]⟩ tblOk
    · repeat' (first | exact rfl | exact hc | exact Nat.le_trans (by simp; omega) (Nat.le_refl _) | constructor)
    · exact rfl
    · apply Weak.keep
      · exact rfl
      · repeat' (first | exact rfl | constructor)
      · repeat' (first | exact rfl | constructor)
      · exact rfl
      · repeat' (first | exact rfl | exact hp | constructor)
    refine Trip.ret ?_
    refine ⟨_, _, [5], [], [], [.arr 3 false es], .cons rfl .nil, .one, .nil, .cons rfl .nil, rfl, rfl, rfl, .nil, ?_, ?_⟩
    all_goals repeat' (first | exact rfl | exact hp | constructor)
end Go.Proofs.Tryz
namespace Go.Graft
open Go.Sym
def seenL (l : List Str) : List Str × List Bool := seenN l l.length
theorem seenN_app (l m : List Str) : ∀ i, i ≤ l.length → seenN (l ++ m) i = seenN l i
  | 0, _ => rfl
  | i + 1, h => by
    have ih := seenN_app l m i (by omega)
    have e : (l ++ m)[i]! = l[i]! := by
      rw [getElem!_pos _ i (by rw [List.length_append]; omega), getElem!_pos _ i (by omega), List.getElem_append_left]
    rw [seenN, seenN, ih, e]
theorem seenL_snoc (l : List Str) (x : Str) : seenL (l ++ [x]) = (mkeys (seenL l).1 x, mset (seenL l).1 (seenL l).2 x true) := by
  have e : (l ++ [x])[l.length]! = x := by
    rw [getElem!_pos _ l.length (by simp)]; simp
  rw [seenL, List.length_append, List.length_singleton, seenN, seenN_app l [x] _ (Nat.le_refl _), e]
  rfl
theorem seenL_len (l : List Str) : (seenL l).1.length = (seenL l).2.length := seenN_len l _
theorem seenL_val (l : List Str) (y : Str) : mval (seenL l).1 (seenL l).2 false y = hasS l y := by
  rw [seenL, seenN_val l y _ (Nat.le_refl _), List.take_length]
theorem hasS_iff (l : List Str) (x : Str) : hasS l x = true ↔ x ∈ l := by
  simp [hasS]
def nmAt (l : List It) (cuts : List Str) (x : Str) : List Str := nmsOf l[place l x]!.kind l[place l x]!.body (hasS cuts x)
inductive Rch (l : List It) (cuts frm : List Str) : Str → Prop
  | start {x : Str} : x ∈ frm → Rch l cuts frm x
  | step {x y : Str} : Rch l cuts frm x → placed l x = true → y ∈ nmAt l cuts x → Rch l cuts frm y
structure IsReach (l : List It) (cuts frm have' lack : List Str) : Prop where
  a1 : asc have'
  a2 : asc lack
  m1 : ∀ x, x ∈ have' ↔ Rch l cuts frm x ∧ placed l x = true
  m2 : ∀ x, x ∈ lack ↔ Rch l cuts frm x ∧ placed l x = false
theorem IsReach.uniq {l : List It} {cuts frm a b c d : List Str} (h : IsReach l cuts frm a b) (k : IsReach l cuts frm c d) : a = c ∧ b = d :=
  ⟨asc_unique h.a1 k.a1 fun x => (h.m1 x).trans (k.m1 x).symm, asc_unique h.a2 k.a2 fun x => (h.m2 x).trans (k.m2 x).symm⟩
structure Onway (l : List It) (cuts frm met next : List Str) : Prop where
  nd : met.Nodup
  r1 : ∀ x ∈ met, Rch l cuts frm x
  r2 : ∀ x ∈ next, Rch l cuts frm x
  f : ∀ x ∈ frm, x ∈ met ∨ x ∈ next
  c : ∀ x ∈ met, placed l x = true → ∀ y ∈ nmAt l cuts x, y ∈ met ∨ y ∈ next
theorem Onway.start (l : List It) (cuts frm : List Str) : Onway l cuts frm [] frm :=
  ⟨List.nodup_nil, by simp, fun x h => .start h, fun x h => .inr h, by simp⟩
theorem Onway.old {l : List It} {cuts frm met next next' : List Str} {x : Str} (h : Onway l cuts frm met next) (hn : ∀ y, y ∈ next ↔ y = x ∨ y ∈ next') (hx : x ∈ met) : Onway l cuts frm met next' where
  nd := h.nd
  r1 := h.r1
  r2 := fun y hy => h.r2 y ((hn y).2 (.inr hy))
  f := fun y hy => (h.f y hy).elim .inl fun k => ((hn y).1 k).elim (fun e => .inl (e ▸ hx)) .inr
  c := fun y hy hp z hz => (h.c y hy hp z hz).elim .inl fun k => ((hn z).1 k).elim (fun e => .inl (e ▸ hx)) .inr
theorem Onway.new {l : List It} {cuts frm met next next' met' : List Str} {x : Str} (h : Onway l cuts frm met next) (hn : ∀ y, y ∈ next → y = x ∨ y ∈ next') (hn2 : ∀ y, y ∈ next' → y ∈ next ∨ (placed l x = true ∧ y ∈ nmAt l cuts x)) (hxn : x ∈ next)
    (hx : x ∉ met) (hm : ∀ y, y ∈ met' ↔ y = x ∨ y ∈ met) (hnd : met'.Nodup) (hc : placed l x = true → ∀ y ∈ nmAt l cuts x, y ∈ next') : Onway l cuts frm met' next' where
  nd := hnd
  r1 := fun y hy => ((hm y).1 hy).elim (fun e => e ▸ h.r2 x hxn) (h.r1 y)
  r2 := fun y hy => (hn2 y hy).elim (h.r2 y) fun k => .step (h.r2 x hxn) k.1 k.2
  f := fun y hy => (h.f y hy).elim (fun k => .inl ((hm y).2 (.inr k))) fun k => (hn y k).elim (fun e => .inl ((hm y).2 (.inl e))) .inr
  c := fun y hy hp z hz => ((hm y).1 hy).elim (fun e => by subst e; exact .inr (hc hp z hz)) fun k => (h.c y k hp z hz).elim (fun k => .inl ((hm z).2 (.inr k))) fun k => (hn z k).elim (fun e => .inl ((hm z).2 (.inl e))) .inr
theorem Onway.done {l : List It} {cuts frm met : List Str} (h : Onway l cuts frm met []) (x : Str) : x ∈ met ↔ Rch l cuts frm x := by
  refine ⟨h.r1 x, fun hx => ?_⟩
  induction hx with
  | start hx => exact (h.f _ hx).elim id fun k => by simp at k
  | step _ hp hy ih => exact (h.c _ ih hp _ hy).elim id fun k => by simp at k
def toCome (l : List It) (cuts met : List Str) : List It → Nat
  | [] => 0
  | it :: r => (if hasS met it.id = true then 0 else 1 + (nmAt l cuts it.id).length) + toCome l cuts met r
theorem toCome_mono (l : List It) (cuts : List Str) {met met' : List Str} (h : ∀ x, x ∈ met → x ∈ met') : ∀ r, toCome l cuts met' r ≤ toCome l cuts met r
  | [] => Nat.le_refl _
  | it :: r => by
    have ih := toCome_mono l cuts h r
    simp only [toCome]
    by_cases h1 : hasS met it.id = true
    · have h2 : hasS met' it.id = true := (hasS_iff _ _).2 (h _ ((hasS_iff _ _).1 h1))
      rw [if_pos h1, if_pos h2]; omega
    · rw [if_neg h1]
      split <;> omega
theorem toCome_new (l : List It) (cuts : List Str) {met met' : List Str} {x : Str} (h : ∀ y, y ∈ met' ↔ y = x ∨ y ∈ met) (hx : x ∉ met) : ∀ r : List It, (∃ it ∈ r, it.id = x) → toCome l cuts met' r + 1 + (nmAt l cuts x).length ≤ toCome l cuts met r
  | [], hr => by simp at hr
  | it :: r, hr => by
    have hm := toCome_mono l cuts (met := met) (met' := met') (fun y hy => (h y).2 (.inr hy)) r
    simp only [toCome]
    by_cases e : it.id = x
    · have h1 : ¬ hasS met it.id = true := fun k => hx (e ▸ (hasS_iff _ _).1 k)
      have h2 : hasS met' it.id = true := (hasS_iff _ _).2 ((h _).2 (.inl e))
      rw [if_neg h1, if_pos h2, e]; omega
    · have ih := toCome_new l cuts h hx r (by
        obtain ⟨it', hm', he'⟩ := hr
        rcases List.mem_cons.1 hm' with rfl | hm'
        · exact absurd he' e
        · exact ⟨it', hm', he'⟩)
      have h3 : hasS met' it.id = hasS met it.id := by
        rw [Bool.eq_iff_iff, hasS_iff, hasS_iff, h]
        exact ⟨fun k => k.resolve_left e, .inr⟩
      rw [h3]; omega
theorem toCome_le (l : List It) (cuts met : List Str) : ∀ r : List It, toCome l cuts met r ≤ r.length * 1048578
  | [] => Nat.le_refl _
  | it :: r => by
    have ih := toCome_le l cuts met r
    have h : (nmAt l cuts it.id).length ≤ 1048577 := by
      rw [nmAt, nmsOf]
      have := linksOf_len l[place l it.id]!.kind l[place l it.id]!.body
      split
      · rw [List.length_take]; omega
      · exact this
    simp only [toCome, List.length_cons, Nat.succ_mul]
    split <;> omega
theorem placed_mem {l : List It} {x : Str} (h : placed l x = true) : ∃ it ∈ l, it.id = x := by
  obtain ⟨h1, h2⟩ := placed_lt h
  rw [getElem!_pos l _ h1] at h2
  exact ⟨_, List.getElem_mem h1, h2⟩
theorem nmAt_len (l : List It) (cuts : List Str) (x : Str) : (nmAt l cuts x).length ≤ 1048577 := by
  rw [nmAt, nmsOf]
  have := linksOf_len l[place l x]!.kind l[place l x]!.body
  split
  · rw [List.length_take]; omega
  · exact this
theorem Onway.reach {l : List It} {cuts frm met a b : List Str} (h : Onway l cuts frm met []) (ha : asc a) (hb : asc b) (h1 : ∀ x, x ∈ a ↔ x ∈ met.filter (placed l)) (h2 : ∀ x, x ∈ b ↔ x ∈ met.filter fun x => !placed l x) : IsReach l cuts frm a b :=
  ⟨ha, hb, fun x => by rw [h1, List.mem_filter, h.done], fun x => by rw [h2, List.mem_filter, h.done]; simp⟩
end Go.Graft
namespace Go.Proofs.Tryz
open Go Go.Sym Go.Graft
set_option maxRecDepth 20000
set_option maxHeartbeats 400000 in
theorem cCloneS (nl : Bool) (es : List PV) (hnl : nl = true → es = []) (hp : plainL es = true) (hc : cellsOkL (cellsOf es) = true) (hb : es.length ≤ 1000000000000) :
    Ctr prog 93 [.sl nl 1 es] [] (.osl FN 0 es.length es.length) [] [.arr 1 nl es] := by
  refine Ctr.enter tblOk func93 rfl (by decide) rfl (nt := 8) rfl rfl rfl rfl ?_
  refine Trip.seq ?_
  apply Trip.reg tblOk
  · repeat' (first | exact rfl | constructor)
  · exact rfl
  refine Trip.seq ?_
  refine Trip.seq ?_
  apply Trip.reg tblOk
  · repeat' (first | exact rfl | constructor)
  · exact rfl
  apply Trip.cond (.tmp rfl)
  · intro hn
    have := hnl hn
    subst this
    subst hn
    refine Trip.seq ?_
    apply Trip.reg tblOk
    · repeat' (first | exact rfl | constructor)
    · exact rfl
    apply Trip.weak (Weak.adopt (t' := [(2, .osl 900 0 0 0)]) (o' := []) 900 1 rfl rfl (by repeat' (first | exact rfl | constructor)) (by repeat' (first | exact rfl | constructor)))
    refine Trip.ret ?_
    refine ⟨_, _, [900], [], [], [.arr 1 true []], .cons rfl .nil, .one, .nil, .cons rfl .nil, rfl, rfl, rfl, .nil, ?_, ?_⟩
    all_goals repeat' (first | exact rfl | constructor)
  · intro hn
    have hn : nl = false := hn
    subst hn
    refine Trip.skip ?_
    apply Trip.regk ⟨[(2, .osl 5 0 es.length es.length)], [(5, .arr 1 false es)]⟩ tblOk
    · repeat' (first | exact rfl | exact hc | exact Nat.le_trans (by simp; omega) (Nat.le_refl _) | constructor)
    · exact rfl
    · apply Weak.keep
      · exact rfl
      · repeat' (first | exact rfl | constructor)
      · repeat' (first | exact rfl | constructor)
      · exact rfl
      · repeat' (first | exact rfl | exact hp | constructor)
    refine Trip.ret ?_
    refine ⟨_, _, [5], [], [], [.arr 1 false es], .cons rfl .nil, .one, .nil, .cons rfl .nil, rfl, rfl, rfl, .nil, ?_, ?_⟩
    all_goals repeat' (first | exact rfl | exact hp | constructor)
theorem le_bl : ∀ a b : Str, (a ≤ b) ↔ bl b a = false
  | a, b => by
    have key : ∀ x y : Str, x < y ↔ bl x y = true := by
      intro x
      induction x with
      | nil =>
        intro y
        cases y with
        | nil => simp [bl, Op.bytesLess]
        | cons b y => simp [bl, Op.bytesLess]
      | cons a x ih =>
        intro y
        cases y with
        | nil => simp [bl, Op.bytesLess]
        | cons b y => rw [bl_cons, List.cons_lt_cons_iff, ih]
    rw [← List.not_lt, key]
    cases bl b a <;> simp
abbrev msort (l : List Str) : List Str := l.mergeSort fun x y => decide (x ≤ y)
theorem msort_asc {l : List Str} (h : l.Nodup) : asc (msort l) := by
  have h1 : (msort l).Pairwise fun x y => decide (x ≤ y) = true := by
    apply List.pairwise_mergeSort
    · intro a b c
      rw [decide_eq_true_eq, decide_eq_true_eq, decide_eq_true_eq]
      exact List.le_trans
    · intro a b
      rw [Bool.or_eq_true, decide_eq_true_eq, decide_eq_true_eq]
      exact List.le_total a b
  have h2 : (msort l).Nodup := (List.mergeSort_perm l _).nodup_iff.2 h
  refine (h1.and h2).imp ?_
  rintro a b ⟨hab, hne⟩
  rw [decide_eq_true_eq, le_bl] at hab
  rcases bl_tri a b with h | h | h
  · exact h
  · rw [hab] at h; simp at h
  · exact absurd h hne
theorem msort_mem (l : List Str) (x : Str) : x ∈ msort l ↔ x ∈ l := List.mem_mergeSort
theorem msort_len (l : List Str) : (msort l).length = l.length := List.length_mergeSort l
theorem cSortS (n : Nat) (nl : Bool) (l : List Str) (hn : n = l.length) (hs : l.length < 4611686018427387904) : Ctr prog 95 [.osl PN 0 n n] [.arr 1 nl (l.map fun s => sV s)] (.tup []) [.arr 1 nl ((msort l).map fun s => sV s)] [] :=
  Ctr.of_sort ⟨_, func95, rfl, rfl⟩ hn (msort_len l) (fun h => by subst h; exact List.mergeSort_nil) (fun w => Tryz.slices_Sort_string_none none 0 w) (fun w blk off cap hH hb => Tryz.slices_Sort_string blk off cap l w hH hb hs)
end Go.Proofs.Tryz
namespace Go.Proofs.Tryz
open Go Go.Sym Go.Graft
set_option maxRecDepth 20000
theorem cIndexFuncS (nl : Bool) (l : List Str) (f : Nat) (caps : List PV) (hp : plainL caps = true) (q : Str → Bool) (hs : l.length ≤ 1000000000000) (hq : ∀ x ∈ l, Ctr prog f (sV x :: caps) [] (bV (q x)) [] []) : Ctr prog 96 [.sl nl 1 (l.map fun x => sV x), .clo (.func f) [] caps] [] (iV (idxP q l)) [] [] := by
  refine Ctr.enter tblOk func96 rfl (by decide) rfl (nt := 19) rfl rfl rfl rfl ?_
  refine Trip.seq ?_
  apply Trip.reg tblOk
  · repeat' constructor
  · exact rfl
  refine Trip.seq ?_
  refine Trip.seq ?_
  apply Trip.reg tblOk
  · repeat' (first | exact rfl | constructor)
  · exact rfl
  refine Trip.block ?_
  apply Trip.loop (fun (i : Nat) => ⟨[(0, .sl nl 1 (l.map fun x => sV x)), (1, .clo (.func f) [] caps), (7, iV l.length), (8, iV i)], []⟩) (fun (i : Nat) => i ≤ l.length ∧ ∀ j, j < i → q l[j]! = false) (fun (i : Nat) => l.length - i) (0)
  · exact ⟨Nat.zero_le _, fun j hj => absurd hj (by omega)⟩
  · apply Weak.keep
    · exact rfl
    · repeat' (first | exact rfl | (refine vI ?_; first | omega | (simp; done) | (simp; omega) | (simp only [List.length_map] at *; omega)) | constructor)
    · repeat' constructor
    · (show (usesOnlyL _ _ && _) = true; rw [usesOnlyL_plain (by assumption)]; rfl)
    · repeat' constructor
  intro i hi
  obtain ⟨hi, hj⟩ := hi
  refine Trip.seq ?_
  apply Trip.reg tblOk
  · repeat' (first | exact rfl | constructor)
  · exact rfl
  refine Trip.seq ?_
  apply Trip.cond (.tmp rfl)
  · intro h
    have h : i < l.length := by simp at h; omega
    have c := hq _ (bang_mem h)
    refine Trip.skip ?_
    refine Trip.seq ?_
    refine Trip.block ?_
    refine Trip.seq ?_
    apply Trip.reg tblOk
    · repeat' (first | exact rfl | constructor)
    · exact rfl
    refine Trip.seq ?_
    apply Trip.reg tblOk
    · repeat' (first | exact rfl | (apply Rule.sem; intro hγ; with_reducible apply F_call0 (x := .tmp 11) (B := []) hγ (hspec := c)) | exact convL_plain (by assumption) | exact idx_map _ _ _ (by show _ < _; first | omega | (simp only [List.length_map] at *; omega)) | ((with_reducible refine Side.mk ?_); first | exact .inl rfl | (simp only [ln]; first | done | omega)) | constructor)
    · exact rfl
    apply Trip.cond (.tmp rfl)
    · intro h2
      have h2 : q l[i]! = true := h2
      rw [idxP_some h hj h2]
      refine Trip.seq ?_
      apply Trip.reg tblOk
      · repeat' (first | exact rfl | constructor)
      · exact rfl
      refine Trip.ret ?_
      apply Ret1 []
      · repeat' (first | exact rfl | constructor)
      · exact rfl
      · repeat' constructor
    intro h2
    have h2 : q l[i]! = false := h2
    refine Trip.skip ?_
    apply Trip.reg tblOk
    · repeat' (first | exact rfl | ((with_reducible refine Side.mk ?_); omega) | constructor)
    · exact rfl
    refine ⟨i + 1, ?_, ?_, ?_⟩
    · exact ⟨by omega, fun j h3 => (Nat.lt_succ_iff_lt_or_eq.1 h3).elim (hj j) (fun e => e ▸ h2)⟩
    · first | omega | (dsimp only at *; omega)
    · apply Weak.keep
      · exact rfl
      · repeat' (first | exact rfl | constructor)
      · repeat' constructor
      · (show (usesOnlyL _ _ && _) = true; rw [usesOnlyL_plain (by assumption)]; rfl)
      · repeat' constructor
  intro h
  have h : i = l.length := by simp at h; omega
  subst h
  rw [idxP_none hj]
  refine Trip.exit ?_
  refine Trip.seq ?_
  apply Trip.reg tblOk
  · repeat' constructor
  · exact rfl
  refine Trip.ret ?_
  apply Ret1 []
  · repeat' (first | exact rfl | constructor)
  · exact rfl
  · repeat' constructor
theorem cContainsFuncS (nl : Bool) (l : List Str) (f : Nat) (caps : List PV) (hp : plainL caps = true) (q : Str → Bool) (hs : l.length ≤ 1000000000000) (hq : ∀ x ∈ l, Ctr prog f (sV x :: caps) [] (bV (q x)) [] []) : Ctr prog 58 [.sl nl 1 (l.map fun x => sV x), .clo (.func f) [] caps] [] (bV (l.any q)) [] [] := by
  have c := cIndexFuncS nl l f caps hp q hs hq
  rw [← idxP_any]
  generalize idxP q l = r at *
  refine Ctr.enter tblOk func58 rfl (by decide) rfl (nt := 9) rfl rfl rfl rfl ?_
  refine Trip.seq ?_
  apply Trip.reg tblOk
  · repeat' constructor
  · exact rfl
  refine Trip.seq ?_
  apply Trip.reg tblOk
  · repeat' (first | exact rfl | (apply Rule.sem; intro hγ; with_reducible apply F_call0 (x := .func 96) (B := []) hγ (hspec := c)) | exact convL_plain (by assumption) | ((with_reducible refine Side.mk ?_); exact .inl rfl) | constructor)
  · exact rfl
  refine Trip.ret ?_
  apply Ret1 []
  · repeat' (first | exact rfl | constructor)
  · exact rfl
  · repeat' (exact cvB (by simp only [List.length_map]))
theorem cIndexS (nl : Bool) (l : List Str) (x : Str) (hs : l.length ≤ 1000000000000) : Ctr prog 101 [.sl nl 1 (l.map fun x => sV x), sV x] [] (iV (idxP (fun y => decide (x = y)) l)) [] [] := by
  refine Ctr.enter tblOk func101 rfl (by decide) rfl (nt := 19) rfl rfl rfl rfl ?_
  refine Trip.seq ?_
  apply Trip.reg tblOk
  · repeat' constructor
  · exact rfl
  refine Trip.seq ?_
  refine Trip.seq ?_
  apply Trip.reg tblOk
  · repeat' (first | exact rfl | constructor)
  · exact rfl
  refine Trip.block ?_
  apply Trip.loop (fun (i : Nat) => ⟨[(0, .sl nl 1 (l.map fun x => sV x)), (1, sV x), (7, iV l.length), (8, iV i)], []⟩) (fun (i : Nat) => i ≤ l.length ∧ ∀ j, j < i → decide (x = l[j]!) = false) (fun (i : Nat) => l.length - i) (0)
  · exact ⟨Nat.zero_le _, fun j hj => absurd hj (by omega)⟩
  · apply Weak.keep
    · exact rfl
    · repeat' (first | exact rfl | (refine vI ?_; first | omega | (simp; done) | (simp; omega) | (simp only [List.length_map] at *; omega)) | constructor)
    · repeat' constructor
    · exact rfl
    · repeat' constructor
  intro i hi
  obtain ⟨hi, hj⟩ := hi
  refine Trip.seq ?_
  apply Trip.reg tblOk
  · repeat' (first | exact rfl | constructor)
  · exact rfl
  refine Trip.seq ?_
  apply Trip.cond (.tmp rfl)
  · intro h
    have h : i < l.length := by simp at h; omega
    refine Trip.skip ?_
    refine Trip.seq ?_
    refine Trip.block ?_
    refine Trip.seq ?_
    apply Trip.reg tblOk
    · repeat' (first | exact rfl | constructor)
    · exact rfl
    refine Trip.seq ?_
    apply Trip.reg tblOk
    · repeat' (first | exact rfl | exact idx_map _ _ _ (by show _ < _; first | omega | (simp only [List.length_map] at *; omega)) | ((with_reducible refine Side.mk ?_); (simp only [ln]; first | done | omega)) | constructor)
    · exact rfl
    apply Trip.cond (.tmp rfl)
    · intro h2
      have h2 : decide (x = l[i]!) = true := h2
      rw [idxP_some h hj h2]
      refine Trip.seq ?_
      apply Trip.reg tblOk
      · repeat' (first | exact rfl | constructor)
      · exact rfl
      refine Trip.ret ?_
      apply Ret1 []
      · repeat' (first | exact rfl | constructor)
      · exact rfl
      · repeat' constructor
    intro h2
    have h2 : decide (x = l[i]!) = false := h2
    refine Trip.skip ?_
    apply Trip.reg tblOk
    · repeat' (first | exact rfl | ((with_reducible refine Side.mk ?_); omega) | constructor)
    · exact rfl
    refine ⟨i + 1, ?_, ?_, ?_⟩
    · exact ⟨by omega, fun j h3 => (Nat.lt_succ_iff_lt_or_eq.1 h3).elim (hj j) (fun e => e ▸ h2)⟩
    · first | omega | (dsimp only at *; omega)
    · apply Weak.keep
      · exact rfl
      · repeat' (first | exact rfl | constructor)
      · repeat' constructor
      · exact rfl
      · repeat' constructor
  intro h
  have h : i = l.length := by simp at h; omega
  subst h
  rw [idxP_none hj]
  refine Trip.exit ?_
  refine Trip.seq ?_
  apply Trip.reg tblOk
  · repeat' constructor
  · exact rfl
  refine Trip.ret ?_
  apply Ret1 []
  · repeat' (first | exact rfl | constructor)
  · exact rfl
  · repeat' constructor
theorem cContainsS (nl : Bool) (l : List Str) (x : Str) (hs : l.length ≤ 1000000000000) : Ctr prog 61 [.sl nl 1 (l.map fun x => sV x), sV x] [] (bV (hasS l x)) [] [] := by
  have c := cIndexS nl l x hs
  rw [← any_hasS, ← idxP_any]
  generalize idxP (fun y => decide (x = y)) l = r at *
  refine Ctr.enter tblOk func61 rfl (by decide) rfl (nt := 9) rfl rfl rfl rfl ?_
  refine Trip.seq ?_
  apply Trip.reg tblOk
  · repeat' constructor
  · exact rfl
  refine Trip.seq ?_
  apply Trip.reg tblOk
  · repeat' (first | exact rfl | (apply Rule.sem; intro hγ; with_reducible apply F_call0 (x := .func 101) (B := []) hγ (hspec := c)) | ((with_reducible refine Side.mk ?_); exact .inl rfl) | constructor)
  · exact rfl
  refine Trip.ret ?_
  apply Ret1 []
  · repeat' (first | exact rfl | constructor)
  · exact rfl
  · repeat' (exact cvB (by simp only [List.length_map]))
end Go.Proofs.Tryz
