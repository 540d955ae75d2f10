/- A part of the proof: Sc, GLiv, Tlv, Tla. -/
import Derived.Test.YtbnnmnbidkpmcaaGreatDoorPart46
set_option linter.unusedVariables false
set_option linter.unusedSimpArgs false
namespace Go.Proofs.Tryz
open Go Go.Sym Go.Graft
set_option maxRecDepth 20000
theorem roL : ∀ l : List It, roFreeL (cellsOf (l.map It.pv)) = true
  | [] => rfl
  | x :: l => by
    have ih := roL l
    simp only [List.map_cons, cellsOf, List.flatMap_cons, PV.cells, It.pv, List.cons_append, List.nil_append, roFreeL, roFree, Bool.true_and] at ih ⊢
    exact ih
theorem putE_whole {l : List It} {k : Int} {b : Str} (h : wholeE k b ≠ 0) : putE l k b = wholeE k b := by rw [putE, if_pos h]
theorem putE_clash {l : List It} {k : Int} {b : Str} (h : wholeE k b = 0) (h2 : clashP l k b = true) : putE l k b = 170 := by rw [putE, if_neg (by simp [h]), if_pos h2]
theorem putE_big {l : List It} {k : Int} {b : Str} (h : wholeE k b = 0) (h2 : clashP l k b = false) (h3 : (!placed l (objId k b) && decide ((65536 : Int) ≤ l.length)) = true) : putE l k b = 4 := by rw [putE, if_neg (by simp [h]), if_neg (by simp [h2]), if_pos h3]
theorem putE_ok {l : List It} {k : Int} {b : Str} (h : wholeE k b = 0) (h2 : clashP l k b = false) (h3 : (!placed l (objId k b) && decide ((65536 : Int) ≤ l.length)) = false) : putE l k b = 0 := by rw [putE, if_neg (by simp [h]), if_neg (by simp [h2]), if_neg (by rw [h3]; simp)]
set_option maxHeartbeats 1000000 in
theorem cPut (nl : Bool) (l : List It) (k : Int) (b : Str) (hnl : nl = true → l = []) (hs : l.length ≤ 1000000000) : Ctr prog 12 [stPV nl l, objPV k b] [] (.tup [stPV (!decide (putE l k b = 0)) (putL l k b), sV (putI l k b), iV (putE l k b)]) [] [] := by
  have c1 := cWhole k b
  have c2 := cId k b
  have c3 := cPlace nl l (objId k b) hs
  have e1 := putE_whole (l := l) (k := k) (b := b)
  have e2 := putE_clash (l := l) (k := k) (b := b)
  have e3 := putE_big (l := l) (k := k) (b := b)
  have e4 := putE_ok (l := l) (k := k) (b := b)
  have hL : putL l k b = if putE l k b ≠ 0 then [] else if placed l (objId k b) = true then l else l.take (place l (objId k b)) ++ (⟨objId k b, k, b⟩ :: l.drop (place l (objId k b))) := rfl
  have hI : putI l k b = if putE l k b ≠ 0 then [] else objId k b := rfl
  have hc : clashP l k b = (placed l (objId k b) && !(decide (l[place l (objId k b)]!.kind = k) && decide (l[place l (objId k b)]!.body = b))) := rfl
  have hple := place_le l (objId k b)
  have hplt := placed_lt (l := l) (x := objId k b)
  have c5 := cClone nl (l.map It.pv) (fun h => by rw [hnl h]; rfl) (plainL_map _ (fun _ => rfl) _) (cellsOk_map _ (fun _ => rfl) _) (by rw [List.length_map]; omega)
  generalize clashP l k b = cl at *
  generalize putL l k b = pL at *
  generalize putI l k b = pI at *
  generalize putE l k b = pE at *
  generalize wholeE k b = we at *
  generalize objId k b = id at *
  generalize placed l id = pd at *
  generalize place l id = p at *
  have c4 := cOfIt l[p]!
  have c6 := cSame l[p]!.kind k l[p]!.body b
  have c7 := cInsert nl (l.map It.pv) [(It.mk id k b).pv] p (by rw [List.length_map]; exact hple) (by simp) (plainL_map _ (fun _ => rfl) _) rfl (cellsOk_map _ (fun _ => rfl) _) rfl (by rw [List.length_map]; simp; omega)
  refine Ctr.enter tblOk func12 rfl (by decide) rfl (nt := 69) rfl rfl rfl rfl ?_
  refine Trip.seq ?_
  apply Trip.reg tblOk
  · repeat' (first | exact rfl | constructor)
  · exact rfl
  refine Trip.seq ?_
  refine Trip.seq ?_
  apply Trip.reg tblOk
  · repeat' (first | exact rfl | (apply Rule.sem; intro hγ; with_reducible apply F_call0 (x := .func 39) (B := []) hγ (hspec := c1)) | ((with_reducible refine Side.mk ?_); exact .inl rfl) | constructor)
  · exact rfl
  refine Trip.seq ?_
  apply Trip.reg tblOk
  · repeat' (first | exact rfl | constructor)
  · exact rfl
  apply Trip.cond (.tmp rfl)
  · intro h
    have h : we ≠ 0 := by simpa using h
    have e1 := e1 h
    rw [if_pos (by omega)] at hL hI
    subst hL
    subst hI
    subst e1
    rw [decide_eq_false h]
    refine Trip.seq ?_
    apply Trip.reg tblOk
    · repeat' (first | exact rfl | constructor)
    · exact rfl
    refine Trip.ret ?_
    apply Ret3 []
    · repeat' (first | exact rfl | constructor)
    · exact rfl
    · repeat' constructor
    · repeat' constructor
    · repeat' constructor
  intro h
  have h : we = 0 := by simpa using h
  have e2 := e2 h
  have e3 := e3 h
  have e4 := e4 h
  refine Trip.skip ?_
  refine Trip.seq ?_
  apply Trip.reg tblOk
  · repeat' (first | exact rfl | (apply Rule.sem; intro hγ; with_reducible apply F_call0 (x := .func 41) (B := []) hγ (hspec := c2)) | ((with_reducible refine Side.mk ?_); exact .inl rfl) | constructor)
  · exact rfl
  refine Trip.seq ?_
  apply Trip.reg tblOk
  · repeat' (first | exact rfl | (apply Rule.sem; intro hγ; with_reducible apply F_call0 (x := .func 43) (B := []) hγ (hspec := c3)) | ((with_reducible refine Side.mk ?_); exact .inl rfl) | constructor)
  · exact rfl
  refine Trip.seq ?_
  refine Trip.block ?_
  refine Trip.seq ?_
  apply Trip.drw tblOk mixed
  · repeat' (first | exact rfl | (apply Rule.under tblOk; intro hγ; with_reducible apply Rule.indexAddr) | exact idx_map _ _ _ (by have h3 := hplt (by simpa [gpick] using hγ); show _ < _; omega) | (apply Rule.sem; intro hγ; with_reducible apply F_call0 (x := .func 40) (B := []) hγ (hspec := c4)) | (apply Rule.sem; intro hγ; with_reducible apply F_call0 (x := .func 44) (B := []) hγ (hspec := c6)) | ((with_reducible refine Side.mk ?_); first | exact .inl rfl | exact fun h => h | exact fun _ h => h | (have h3 := hplt (by simpa [gpick] using hγ); simp only [List.length_map]; omega) | exact fun _ => hγ) | constructor)
  · exact rfl
  · kernel_rfl
  apply Trip.cond (.tmp rfl)
  · intro h2
    have h2 : cl = true := by
      rw [hc]
      have h2 : (pd && !(decide (l[p]!.kind = k) && (decide (l[p]!.body = b) && true))) = true := h2
      rwa [Bool.and_true] at h2
    have e2 := e2 h2
    rw [if_pos (by omega)] at hL hI
    subst hL
    subst hI
    subst e2
    refine Trip.seq ?_
    apply Trip.reg tblOk
    · repeat' (first | exact rfl | constructor)
    · exact rfl
    refine Trip.ret ?_
    apply Ret3 []
    · repeat' (first | exact rfl | constructor)
    · exact rfl
    · repeat' constructor
    · repeat' constructor
    · repeat' constructor
  intro h2
  have h2 : cl = false := by
    rw [hc]
    have h2 : (pd && !(decide (l[p]!.kind = k) && (decide (l[p]!.body = b) && true))) = false := h2
    rwa [Bool.and_true] at h2
  have e3 := e3 h2
  have e4 := e4 h2
  refine Trip.seq ?_
  apply Trip.reg tblOk
  · repeat' (first | exact rfl | ((with_reducible refine Side.mk ?_); first | exact fun h => h | exact fun _ h => h) | constructor)
  · exact rfl
  apply Trip.cond (.tmp rfl)
  · intro h3
    have h3 : (!pd && decide ((65536 : Int) ≤ l.length)) = true := by
      have h3 : (!pd && decide ((65536 : Int) ≤ ((l.map It.pv).length : Nat))) = true := h3
      rwa [List.length_map] at h3
    have e3 := e3 h3
    rw [if_pos (by omega)] at hL hI
    subst hL
    subst hI
    subst e3
    refine Trip.seq ?_
    apply Trip.reg tblOk
    · repeat' (first | exact rfl | constructor)
    · exact rfl
    refine Trip.ret ?_
    apply Ret3 []
    · repeat' (first | exact rfl | constructor)
    · exact rfl
    · repeat' constructor
    · repeat' constructor
    · repeat' constructor
  intro h3
  have h3 : (!pd && decide ((65536 : Int) ≤ l.length)) = false := by
    have h3 : (!pd && decide ((65536 : Int) ≤ ((l.map It.pv).length : Nat))) = false := h3
    rwa [List.length_map] at h3
  have e4 := e4 h3
  subst e4
  rw [if_neg (by simp)] at hL hI
  subst hI
  refine Trip.skip ?_
  apply Trip.regk ⟨[(3, .ref 3 0), (4, .ref 4 0), (8, sV pI), (9, iV p), (10, bV pd), (11, .osl 900 0 (l.map It.pv).length (l.map It.pv).length)], [(3, .box [iV k, sV b]), (4, .box [nilS]), (900, .arr 3 nl (l.map It.pv))]⟩ tblOk
  · repeat' (first | exact rfl | (apply Rule.sem; intro hγ; with_reducible apply F_call (x := .func 45) (σ := []) (B := []) (news := [900]) hγ (hspec := c5)) | exact plainL_map _ (fun _ => rfl) _ | ((with_reducible refine Side.mk ?_); exact .inl rfl) | constructor)
  · exact rfl
  · apply Weak.keep
    · exact rfl
    · repeat' (first | exact rfl | constructor)
    · repeat' (first | exact rfl | constructor)
    · exact rfl
    · repeat' (first | exact rfl | exact plainL_map _ (fun _ => rfl) _ | constructor)
  refine Trip.seqk ⟨[(4, .ref 4 0), (8, sV pI), (11, .osl 900 0 pL.length pL.length)], [(4, .box [nilS]), (900, .arr 3 false (pL.map It.pv))]⟩ ?_ ?_
  · refine Trip.seq ?_
    apply Trip.reg tblOk
    · repeat' (first | exact rfl | constructor)
    · exact rfl
    apply Trip.cond (.tmp rfl)
    · intro h4
      have h4 : pd = false := by simpa using h4
      rw [if_neg (by rw [h4]; simp)] at hL
      have hro : roFreeL (cellsOf ((l.map It.pv).take p ++ ([(It.mk pI k b).pv] ++ (l.map It.pv).drop p))) = true := by
        have := roL pL
        rw [hL] at this
        simpa using this
      have hpl2 : plainL ((l.map It.pv).take p ++ ([(It.mk pI k b).pv] ++ (l.map It.pv).drop p)) = true := by
        have : (l.map It.pv).take p ++ ([(It.mk pI k b).pv] ++ (l.map It.pv).drop p) = (l.take p ++ It.mk pI k b :: l.drop p).map It.pv := by simp
        rw [this]; exact plainL_map _ (fun _ => rfl) _
      apply Trip.reg tblOk
      · repeat' (first | exact rfl | (apply Rule.sem; intro hγ; with_reducible apply F_call (x := .func 46) (σ := [900]) (B := [64]) (news := []) hγ (hspec := c7)) | exact hpl2 | exact plainL_map _ (fun _ => rfl) _ | (refine Side.mk (.inr ⟨rfl, ?_, rfl⟩); simp only [List.all_cons, List.all_nil, Bool.and_true]; exact hro) | constructor)
      · exact rfl
      apply Weak.keep
      · exact rfl
      · repeat' (first | exact rfl | (rw [hL]; refine Side.mk (oslE ?_ ?_) <;> simp <;> omega) | constructor)
      · repeat' (first | exact rfl | exact arrF rfl (by rw [hL]; simp) | constructor)
      · exact rfl
      · repeat' (first | exact rfl | exact plainL_map _ (fun _ => rfl) _ | constructor)
    · intro h4
      have h4 : pd = true := by simpa using h4
      rw [if_pos h4] at hL
      obtain ⟨hp1, _⟩ := hplt h4
      have hnlf : nl = false := by
        cases nl with
        | false => rfl
        | true => rw [hnl rfl] at hp1; simp at hp1
      subst hnlf
      subst hL
      refine Trip.skip ?_
      apply Weak.keep
      · exact rfl
      · repeat' (first | exact rfl | (refine Side.mk (oslE ?_ ?_) <;> (simp only [ln]; first | done | omega)) | constructor)
      · repeat' (first | exact rfl | constructor)
      · exact rfl
      · repeat' (first | exact rfl | exact plainL_map _ (fun _ => rfl) _ | constructor)
  refine Trip.seq ?_
  apply Trip.reg tblOk
  · repeat' (first | exact rfl | constructor)
  · exact rfl
  refine Trip.ret ?_
  apply Ret3 [900]
  · repeat' (first | exact rfl | constructor)
  · exact rfl
  · repeat' (first | exact rfl | exact plainL_map _ (fun _ => rfl) _ | (refine Side.mk ?_; simp only [ln]; first | done | omega) | constructor)
  · repeat' constructor
  · repeat' constructor
end Go.Proofs.Tryz
namespace Go.Graft
open Go.Sym
set_option maxRecDepth 100000
def xA : Str := [97, 52, 57, 56, 102, 56, 102, 50, 48, 102, 48, 54, 97, 99, 100, 53, 56, 56, 49, 53, 49, 101, 49, 55, 102, 54, 52, 50, 50, 97, 54, 100, 52, 55, 100, 97, 52, 53, 97, 97]
def xB : Str := [54, 101, 102, 49, 57, 98, 52, 49, 50, 50, 53, 99, 53, 51, 54, 57, 102, 49, 99, 49, 48, 52, 100, 52, 53, 100, 56, 100, 56, 53, 101, 102, 97, 57, 98, 48, 53, 55, 98, 53]
def xC : Str := [48, 50, 48, 100, 55, 57, 51, 49, 97, 57, 98, 98, 48, 98, 53, 50, 98, 97, 48, 54, 100, 49, 56, 49, 48, 102, 51, 52, 51, 52, 49, 57, 54, 100, 55, 48, 54, 100, 54, 49]
def xWho : Str := [97, 32, 60, 97, 64, 98, 62, 32, 53, 32, 43, 48, 49, 48, 48]
def xBody : Str := [116, 114, 101, 101, 32] ++ xB ++ [10] ++ [97, 117, 116, 104, 111, 114, 32] ++ xWho ++ [10, 99, 111, 109, 109, 105, 116, 116, 101, 114, 32] ++ xWho ++ [10, 10] ++ [120, 10]
def s1 : List It := [⟨xA, 1, [97, 98]⟩]
def s2 : List It := [⟨xB, 2, []⟩, ⟨xA, 1, [97, 98]⟩]
def s3 : List It := [⟨xC, 3, xBody⟩, ⟨xB, 2, []⟩, ⟨xA, 1, [97, 98]⟩]
def s4 : List It := [⟨xC, 3, xBody⟩]
def s5 : List It := [⟨xC, 3, xBody⟩, ⟨xA, 1, [97, 98]⟩]
theorem lv1 : putE [] 1 [97, 98] = 0 ∧ putL [] 1 [97, 98] = s1 ∧ putI [] 1 [97, 98] = xA := by decide +kernel
theorem lv2 : putE s1 2 [] = 0 ∧ putL s1 2 [] = s2 ∧ putI s1 2 [] = xB := by decide +kernel
theorem lv3 : putE s2 3 xBody = 0 ∧ putL s2 3 xBody = s3 ∧ putI s2 3 xBody = xC := by decide +kernel
theorem lv4 : comE ⟨xB, [], ⟨[97], [97, 64, 98], 5, 60⟩, ⟨[97], [97, 64, 98], 5, 60⟩, [120, 10]⟩ = 0 := by decide +kernel
theorem lv5 : (s3.filter fun x => hasS [xC] x.id) = s4 ∧ (s3.filter fun x => hasS [xC, xA] x.id) = s5 ∧ (s3.filter fun x => !placed s3 x.id) = [] := by decide +kernel
theorem lv6 : rightSt s3 = true ∧ placed s3 xA = true ∧ s3[place s3 xA]!.kind = 1 ∧ s3[place s3 xA]!.body = [97, 98] ∧ placed s3 [120] = false ∧ placed s3 xB = true ∧ placed s3 [] = false := by decide +kernel
theorem mk_reach {l : List It} {met have' lack : List Str} {x : Str} (hd : met.Nodup) (h1 : ∀ y ∈ met, y = x ∨ (placed l x = true ∧ y ∈ nmAt l [] x)) (h2 : x ∈ met) (h3 : ∀ y ∈ met, placed l y = true → ∀ z ∈ nmAt l [] y, z ∈ met)
    (ha : asc have') (hb : asc lack) (m1 : ∀ y, y ∈ have' ↔ y ∈ met.filter (placed l)) (m2 : ∀ y, y ∈ lack ↔ y ∈ met.filter fun y => !placed l y) : IsReach l [] [x] have' lack :=
  Onway.reach (met := met) ⟨hd, fun y hy => (h1 y hy).elim (fun e => e ▸ .start (by simp)) fun k => .step (.start (by simp)) k.1 k.2, by simp, fun y hy => .inl (by rw [List.mem_singleton] at hy; exact hy ▸ h2), fun y hy hp z hz => .inl (h3 y hy hp z hz)⟩ ha hb m1 m2
theorem lv7 : placed s3 xC = true ∧ nmAt s3 [] xC = [xB] ∧ nmAt s3 [] xB = [] := by decide +kernel
theorem lv8 : placed s4 xC = true ∧ placed s4 xB = false ∧ nmAt s4 [] xC = [xB] := by decide +kernel
theorem lv9 : placed s5 xC = true ∧ placed s5 xB = false ∧ nmAt s5 [] xC = [xB] := by decide +kernel
theorem lvBC : bl xC xB = true ∧ xC ≠ xB := by decide +kernel
theorem asc_pair {x y : Str} (h : bl x y = true) : asc [x, y] := by
  rw [asc, List.pairwise_cons]
  exact ⟨by simpa using h, List.pairwise_singleton ..⟩
theorem asc_one (x : Str) : asc [x] := List.pairwise_singleton ..
theorem rch3 : IsReach s3 [] [xC] [xC, xB] [] := by
  obtain ⟨p1, p2, p3⟩ := lv7
  have p4 := lv6.2.2.2.2.2.1
  have hne := lvBC.2
  have hbc := lvBC.1
  generalize s3 = s at *
  generalize xC = c at *
  generalize xB = b at *
  refine mk_reach (met := [c, b]) (by simp [hne]) ?_ (by simp) ?_ (asc_pair hbc) List.Pairwise.nil ?_ ?_
  · intro y hy
    simp only [List.mem_cons, List.not_mem_nil, or_false] at hy
    rcases hy with rfl | rfl
    · exact .inl rfl
    · exact .inr ⟨p1, by rw [p2]; simp⟩
  · intro y hy _ z hz
    simp only [List.mem_cons, List.not_mem_nil, or_false] at hy
    rcases hy with rfl | rfl
    · rw [p2] at hz; simp at hz; simp [hz]
    · rw [p3] at hz; simp at hz
  · simp [List.filter_cons, p1, p4]
  · simp [List.filter_cons, p1, p4]
theorem rchM {s : List It} (p1 : placed s xC = true) (p4 : placed s xB = false) (p2 : nmAt s [] xC = [xB]) : IsReach s [] [xC] [xC] [xB] := by
  have hne := lvBC.2
  generalize xC = c at *
  generalize xB = b at *
  refine mk_reach (met := [c, b]) (by simp [hne]) ?_ (by simp) ?_ (asc_one _) (asc_one _) ?_ ?_
  · intro y hy
    simp only [List.mem_cons, List.not_mem_nil, or_false] at hy
    rcases hy with rfl | rfl
    · exact .inl rfl
    · exact .inr ⟨p1, by rw [p2]; simp⟩
  · intro y hy hp z hz
    simp only [List.mem_cons, List.not_mem_nil, or_false] at hy
    rcases hy with rfl | rfl
    · rw [p2] at hz; simp at hz; simp [hz]
    · rw [p4] at hp; simp at hp
  · simp [List.filter_cons, p1, p4]
  · simp [List.filter_cons, p1, p4]
theorem rch4 : IsReach s4 [] [xC] [xC] [xB] := rchM lv8.1 lv8.2.1 lv8.2.2
theorem rch5 : IsReach s5 [] [xC] [xC] [xB] := rchM lv9.1 lv9.2.1 lv9.2.2
end Go.Graft
namespace Go.Proofs.Tryz
open Go Go.Sym Go.Graft
set_option maxRecDepth 20000
theorem wholeX : wholeP s3 [] [xC, xB] [] = true := by decide +kernel
set_option maxHeartbeats 2000000 in
theorem cLives : Ctr prog 8 [] [] (bV true) [] [] := by
  have c1 := cPut true [] 1 [97, 98] (fun _ => rfl) (by simp)
  have c2 := cPut false s1 2 [] (fun h => by simp at h) (by decide)
  have c3 := cPut false s2 3 xBody (fun h => by simp at h) (by decide)
  rw [lv1.1, lv1.2.1, lv1.2.2] at c1
  rw [lv2.1, lv2.2.1, lv2.2.2] at c2
  rw [lv3.1, lv3.2.1, lv3.2.2] at c3
  have e0 : (!decide ((0 : Int) = 0)) = false := rfl
  rw [e0] at c1 c2 c3
  have cB := cBodyX xB (by decide) lv4
  have hb : bodyX xB = xBody := rfl
  rw [hb] at cB
  have cR := cReach false false s3 [xC] (by decide) (by simp) (by simp) [xC, xB] [] rch3
  simp only [if_true] at cR
  have cR2 := cReach false false s4 [xC] (by decide) (by simp) (by simp) [xC] [xB] rch4
  have hne : ¬ ([xB] : List Str) = [] := by simp
  simp only [if_neg hne] at cR2
  have cO1 := cOnlyP false false s3 [xC] (by decide) (by simp)
  have cO2 := cOnlyP false false s3 [xC, xA] (by decide) (by simp)
  rw [lv5.1, show s4.isEmpty = false from rfl] at cO1
  rw [lv5.2.1, show s5.isEmpty = false from rfl] at cO2
  have cM := cMissing false false s5 [xC] (by decide) (by simp) (by simp) [xC] [xB] rch5
  have cG := cGet false s3 xA (by decide)
  have cG2 := cGet false s3 [120] (by decide)
  rw [lv6.2.1, lv6.2.2.1, lv6.2.2.2.1] at cG
  rw [lv6.2.2.2.2.1] at cG2
  simp only [if_true, Bool.false_eq_true, if_false] at cG cG2
  have cV := cValid false s3 (by decide)
  rw [lv6.1] at cV
  have cI := cIds false s3 (by decide)
  have hl3 : s3.length = 3 := rfl
  have cH1 := cHas false s3 xB (by decide)
  have cH2 := cHas false s3 [] (by decide)
  rw [lv6.2.2.2.2.2.1] at cH1
  rw [lv6.2.2.2.2.2.2] at cH2
  have cW := cWholeP false true false s3 [] [xC] (by decide) (by simp) (by simp) (by simp) (by decide +kernel) [xC, xB] [] rch3 (by simp)
  rw [wholeX] at cW
  have cL := cLessP false false s3 s3 (by decide) (by decide)
  rw [lv5.2.2] at cL
  simp only [List.map_nil, List.map_cons, List.isEmpty_nil, List.isEmpty_cons] at c1 cB cR cR2 cO1 cO2 cM cW cL
  clear e0 hb hne
  generalize s5 = s5 at *
  generalize s4 = s4 at *
  generalize s2 = s2 at *
  generalize s1 = s1 at *
  generalize xBody = bd at *
  generalize xA = a at *
  generalize xC = c at *
  refine Ctr.enter tblOk func8 rfl (by decide) rfl (nt := 167) rfl rfl rfl rfl ?_
  refine Trip.seq ?_
  apply Trip.reg tblOk
  · repeat' constructor
  · exact rfl
  apply Trip.regk ⟨[(1, .ref 1 0), (2, sV a), (3, iV 0)], [(1, .box [.sl false 3 (s1.map It.pv)])]⟩ tblOk
  · repeat' (first | exact rfl | (apply Rule.sem; intro hγ; with_reducible apply F_call0 (x := .func 12) (B := []) hγ (hspec := c1)) | ((with_reducible refine Side.mk ?_); exact .inl rfl) | constructor)
  · exact rfl
  · apply Weak.keep
    · exact rfl
    · repeat' (first | exact rfl | constructor)
    · repeat' (first | exact rfl | constructor)
    · exact rfl
    · repeat' (first | exact rfl | constructor)
  apply Trip.regk ⟨[(1, .ref 1 0), (2, sV a), (3, iV 0), (4, sV xB), (5, iV 0)], [(1, .box [.sl false 3 (s2.map It.pv)])]⟩ tblOk
  · repeat' (first | exact rfl | (apply Rule.sem; intro hγ; with_reducible apply F_call0 (x := .func 12) (B := []) hγ (hspec := c2)) | ((with_reducible refine Side.mk ?_); exact .inl rfl) | constructor)
  · exact rfl
  · apply Weak.keep
    · exact rfl
    · repeat' (first | exact rfl | constructor)
    · repeat' (first | exact rfl | constructor)
    · exact rfl
    · repeat' (first | exact rfl | constructor)
  apply Trip.regk ⟨[(1, .ref 1 0), (2, sV a), (3, iV 0), (4, sV xB), (5, iV 0), (6, sV bd), (7, iV 0)], [(1, .box [.sl false 3 (s2.map It.pv)])]⟩ tblOk
  · repeat' (first | exact rfl | (apply Rule.sem; intro hγ; with_reducible apply F_call0 (dst := some 35) (x := .func 38) (B := []) hγ (hspec := cPerson)) | (apply Rule.sem; intro hγ; with_reducible apply F_call0 (dst := some 36) (x := .func 38) (B := []) hγ (hspec := cPerson)) | (apply Rule.sem; intro hγ; with_reducible apply F_call0 (x := .func 37) (B := []) hγ (hspec := cB)) | ((with_reducible refine Side.mk ?_); exact .inl rfl) | constructor)
  · exact rfl
  · apply Weak.keep
    · exact rfl
    · repeat' (first | exact rfl | constructor)
    · repeat' (first | exact rfl | constructor)
    · exact rfl
    · repeat' (first | exact rfl | constructor)
  apply Trip.regk ⟨[(1, .ref 1 0), (2, sV a), (3, iV 0), (4, sV xB), (5, iV 0), (8, sV c), (9, iV 0)], [(1, .box [.sl false 3 (s3.map It.pv)])]⟩ tblOk
  · repeat' (first | exact rfl | (apply Rule.sem; intro hγ; with_reducible apply F_call0 (x := .func 12) (B := []) hγ (hspec := c3)) | ((with_reducible refine Side.mk ?_); exact .inl rfl) | constructor)
  · exact rfl
  · apply Weak.keep
    · exact rfl
    · repeat' (first | exact rfl | constructor)
    · repeat' (first | exact rfl | constructor)
    · exact rfl
    · repeat' (first | exact rfl | constructor)
  apply Trip.regk ⟨[(1, .ref 1 0), (2, sV a), (3, iV 0), (4, sV xB), (5, iV 0), (8, sV c), (9, iV 0), (10, .sl false 1 [sV c, sV xB]), (11, iV 0)], [(1, .box [.sl false 3 (s3.map It.pv)])]⟩ tblOk
  · repeat' (first | exact rfl | (apply Rule.sem; intro hγ; with_reducible apply F_callG (x := .func 25) (σ := []) (G := [52]) (news := []) hγ (hspec := cR)) | (with_reducible apply cvView (B := [52])) | constructor)
  · exact rfl
  · apply Weak.keep
    · exact rfl
    · repeat' (first | exact rfl | constructor)
    · repeat' (first | exact rfl | constructor)
    · exact rfl
    · repeat' (first | exact rfl | constructor)
  apply Trip.regk ⟨[(1, .ref 1 0), (2, sV a), (3, iV 0), (4, sV xB), (5, iV 0), (8, sV c), (9, iV 0), (10, .sl false 1 [sV c, sV xB]), (11, iV 0), (13, iV 171)], [(1, .box [.sl false 3 (s3.map It.pv)])]⟩ tblOk
  · repeat' (first | exact rfl | (apply Rule.sem; intro hγ; with_reducible apply F_callG (x := .func 23) (σ := []) (G := [59]) (news := []) hγ (hspec := cO1)) | (with_reducible apply cvView (B := [59])) | (apply Rule.sem; intro hγ; with_reducible apply F_callG (x := .func 25) (σ := []) (G := [62]) (news := []) hγ (hspec := cR2)) | (with_reducible apply cvView (B := [62])) | constructor)
  · exact rfl
  · apply Weak.keep
    · exact rfl
    · repeat' (first | exact rfl | constructor)
    · repeat' (first | exact rfl | constructor)
    · exact rfl
    · repeat' (first | exact rfl | constructor)
  apply Trip.regk ⟨[(1, .ref 1 0), (2, sV a), (3, iV 0), (4, sV xB), (5, iV 0), (8, sV c), (9, iV 0), (10, .sl false 1 [sV c, sV xB]), (11, iV 0), (13, iV 171), (14, .ref 14 0), (15, iV 0)], [(1, .box [.sl false 3 (s3.map It.pv)]), (14, .box [iV 1, sV [97, 98]])]⟩ tblOk
  · repeat' (first | exact rfl | (apply Rule.sem; intro hγ; with_reducible apply F_call0 (x := .func 15) (B := []) hγ (hspec := cG)) | ((with_reducible refine Side.mk ?_); exact .inl rfl) | constructor)
  · exact rfl
  · apply Weak.keep
    · exact rfl
    · repeat' (first | exact rfl | constructor)
    · repeat' (first | exact rfl | constructor)
    · exact rfl
    · repeat' (first | exact rfl | constructor)
  apply Trip.regk ⟨[(1, .ref 1 0), (2, sV a), (3, iV 0), (4, sV xB), (5, iV 0), (8, sV c), (9, iV 0), (10, .sl false 1 [sV c, sV xB]), (11, iV 0), (13, iV 171), (14, .ref 14 0), (15, iV 0), (17, iV 5)], [(1, .box [.sl false 3 (s3.map It.pv)]), (14, .box [iV 1, sV [97, 98]])]⟩ tblOk
  · repeat' (first | exact rfl | (apply Rule.sem; intro hγ; with_reducible apply F_call0 (x := .func 15) (B := []) hγ (hspec := cG2)) | ((with_reducible refine Side.mk ?_); exact .inl rfl) | constructor)
  · exact rfl
  · apply Weak.keep
    · exact rfl
    · repeat' (first | exact rfl | constructor)
    · repeat' (first | exact rfl | constructor)
    · exact rfl
    · repeat' (first | exact rfl | constructor)
  apply Trip.regk ⟨[(1, .ref 1 0), (2, sV a), (3, iV 0), (4, sV xB), (5, iV 0), (8, sV c), (9, iV 0), (10, .sl false 1 [sV c, sV xB]), (11, iV 0), (13, iV 171), (14, .ref 14 0), (15, iV 0), (17, iV 5), (18, .sl false 1 [sV xB])], [(1, .box [.sl false 3 (s3.map It.pv)]), (14, .box [iV 1, sV [97, 98]])]⟩ tblOk
  · repeat' (first | exact rfl | (apply Rule.sem; intro hγ; with_reducible apply F_callG (x := .func 23) (σ := []) (G := [80]) (news := []) hγ (hspec := cO2)) | (with_reducible apply cvView (B := [80])) | (apply Rule.sem; intro hγ; with_reducible apply F_callG (x := .func 27) (σ := []) (G := [83]) (news := []) hγ (hspec := cM)) | (with_reducible apply cvView (B := [83])) | constructor)
  · exact rfl
  · apply Weak.keep
    · exact rfl
    · repeat' (first | exact rfl | constructor)
    · repeat' (first | exact rfl | constructor)
    · exact rfl
    · repeat' (first | exact rfl | constructor)
  refine Trip.seq ?_
  apply Trip.reg tblOk
  · repeat' (first | exact rfl | (apply Rule.sem; intro hγ; with_reducible apply F_call0 (x := .func 9) (B := []) hγ (hspec := cV)) | (apply Rule.sem; intro hγ; with_reducible apply F_call0 (x := .func 19) (B := []) hγ (hspec := cI)) | (apply Rule.sem; intro hγ; with_reducible apply F_call0 (dst := some 146) (x := .func 22) (B := []) hγ (hspec := cH1)) | (apply Rule.sem; intro hγ; with_reducible apply F_call0 (dst := some 150) (x := .func 22) (B := []) hγ (hspec := cH2)) | (apply Rule.sem; intro hγ; with_reducible apply F_call0 (x := .func 29) (B := [156]) hγ (hspec := cW)) | (apply Rule.sem; intro hγ; with_reducible apply F_call0 (x := .func 35) (B := []) hγ (hspec := cL)) | ((with_reducible refine Side.mk ?_); first | exact .inl rfl | exact .inr ⟨rfl, rfl, rfl⟩ | (simp only [ln]; first | done | omega)) | constructor)
  · exact rfl
  refine Trip.ret ?_
  apply Ret1 []
  · repeat' (first | exact rfl | constructor)
  · exact rfl
  · repeat' (exact cvB rfl)
end Go.Proofs.Tryz
namespace Go.Proofs.Tryz
open Go Go.Sym Go.Graft
set_option maxRecDepth 20000
end Go.Proofs.Tryz
