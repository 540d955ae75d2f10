/- A part of the proof: GLiv, Tlv, Tla, SymY. -/
import Derived.Test.YtbnnmnbidkpmcaaGreatDoorPart42
import Derived.ProofKit
import Derived.SizedLaws
import Derived.Deep.Slices
set_option linter.unusedVariables false
set_option linter.unusedSimpArgs false
namespace Go.Graft
open Go.Sym
set_option maxRecDepth 100000
def xA : Str := [97, 52, 57, 56, 102, 56, 102, 50, 48, 102, 48, 54, 97, 99, 100, 53, 56, 56, 49, 53, 49, 101, 49, 55, 102, 54, 52, 50, 50, 97, 54, 100, 52, 55, 100, 97, 52, 53, 97, 97]
def xB : Str := [54, 101, 102, 49, 57, 98, 52, 49, 50, 50, 53, 99, 53, 51, 54, 57, 102, 49, 99, 49, 48, 52, 100, 52, 53, 100, 56, 100, 56, 53, 101, 102, 97, 57, 98, 48, 53, 55, 98, 53]
def xC : Str := [48, 50, 48, 100, 55, 57, 51, 49, 97, 57, 98, 98, 48, 98, 53, 50, 98, 97, 48, 54, 100, 49, 56, 49, 48, 102, 51, 52, 51, 52, 49, 57, 54, 100, 55, 48, 54, 100, 54, 49]
def xWho : Str := [97, 32, 60, 97, 64, 98, 62, 32, 53, 32, 43, 48, 49, 48, 48]
def xBody : Str := [116, 114, 101, 101, 32] ++ xB ++ [10] ++ [97, 117, 116, 104, 111, 114, 32] ++ xWho ++ [10, 99, 111, 109, 109, 105, 116, 116, 101, 114, 32] ++ xWho ++ [10, 10] ++ [120, 10]
def s1 : List It := [⟨xA, 1, [97, 98]⟩]
def s2 : List It := [⟨xB, 2, []⟩, ⟨xA, 1, [97, 98]⟩]
def s3 : List It := [⟨xC, 3, xBody⟩, ⟨xB, 2, []⟩, ⟨xA, 1, [97, 98]⟩]
def s4 : List It := [⟨xC, 3, xBody⟩]
def s5 : List It := [⟨xC, 3, xBody⟩, ⟨xA, 1, [97, 98]⟩]
theorem lv1 : putE [] 1 [97, 98] = 0 ∧ putL [] 1 [97, 98] = s1 ∧ putI [] 1 [97, 98] = xA := by decide +kernel
theorem lv2 : putE s1 2 [] = 0 ∧ putL s1 2 [] = s2 ∧ putI s1 2 [] = xB := by decide +kernel
theorem lv3 : putE s2 3 xBody = 0 ∧ putL s2 3 xBody = s3 ∧ putI s2 3 xBody = xC := by decide +kernel
theorem lv4 : comE ⟨xB, [], ⟨[97], [97, 64, 98], 5, 60⟩, ⟨[97], [97, 64, 98], 5, 60⟩, [120, 10]⟩ = 0 := by decide +kernel
theorem lv5 : (s3.filter fun x => hasS [xC] x.id) = s4 ∧ (s3.filter fun x => hasS [xC, xA] x.id) = s5 ∧ (s3.filter fun x => !placed s3 x.id) = [] := by decide +kernel
theorem lv6 : rightSt s3 = true ∧ placed s3 xA = true ∧ s3[place s3 xA]!.kind = 1 ∧ s3[place s3 xA]!.body = [97, 98] ∧ placed s3 [120] = false ∧ placed s3 xB = true ∧ placed s3 [] = false := by decide +kernel
theorem mk_reach {l : List It} {met have' lack : List Str} {x : Str} (hd : met.Nodup) (h1 : ∀ y ∈ met, y = x ∨ (placed l x = true ∧ y ∈ nmAt l [] x)) (h2 : x ∈ met) (h3 : ∀ y ∈ met, placed l y = true → ∀ z ∈ nmAt l [] y, z ∈ met)
  (ha : asc have') (hb : asc lack) (m1 : ∀ y, y ∈ have' ↔ y ∈ met.filter (placed l)) (m2 : ∀ y, y ∈ lack ↔ y ∈ met.filter fun y => !placed l y) : IsReach l [] [x] have' lack :=
 Onway.reach (met := met) ⟨hd, fun y hy => (h1 y hy).elim (fun e => e ▸ .start (by simp)) fun k => .step (.start (by simp)) k.1 k.2, by simp, fun y hy => .inl (by rw [List.mem_singleton] at hy; exact hy ▸ h2), fun y hy hp z hz => .inl (h3 y hy hp z hz)⟩ ha hb m1 m2
theorem lv7 : placed s3 xC = true ∧ nmAt s3 [] xC = [xB] ∧ nmAt s3 [] xB = [] := by decide +kernel
theorem lv8 : placed s4 xC = true ∧ placed s4 xB = false ∧ nmAt s4 [] xC = [xB] := by decide +kernel
theorem lv9 : placed s5 xC = true ∧ placed s5 xB = false ∧ nmAt s5 [] xC = [xB] := by decide +kernel
theorem lvBC : bl xC xB = true ∧ xC ≠ xB := by decide +kernel
theorem asc_pair {x y : Str} (h : bl x y = true) : asc [x, y] := by
 rw [asc, List.pairwise_cons]
 exact ⟨by simpa using h, List.pairwise_singleton ..⟩
theorem asc_one (x : Str) : asc [x] := List.pairwise_singleton ..
theorem rch3 : IsReach s3 [] [xC] [xC, xB] [] := by
 obtain ⟨p1, p2, p3⟩ := lv7
 have p4 := lv6.2.2.2.2.2.1
 have hne := lvBC.2
 have hbc := lvBC.1
 generalize s3 = s at *
 generalize xC = c at *
 generalize xB = b at *
 refine mk_reach (met := [c, b]) (by simp [hne]) ?_ (by simp) ?_ (asc_pair hbc) List.Pairwise.nil ?_ ?_
 ·intro y hy
  simp only [List.mem_cons, List.not_mem_nil, or_false] at hy
  rcases hy with rfl | rfl
  ·exact .inl rfl
  ·exact .inr ⟨p1, by rw [p2]; simp⟩
 ·intro y hy _ z hz
  simp only [List.mem_cons, List.not_mem_nil, or_false] at hy
  rcases hy with rfl | rfl
  ·rw [p2] at hz; simp at hz; simp [hz]
  ·rw [p3] at hz; simp at hz
 ·simp [List.filter_cons, p1, p4]
 ·simp [List.filter_cons, p1, p4]
theorem rchM {s : List It} (p1 : placed s xC = true) (p4 : placed s xB = false) (p2 : nmAt s [] xC = [xB]) : IsReach s [] [xC] [xC] [xB] := by
 have hne := lvBC.2
 generalize xC = c at *
 generalize xB = b at *
 refine mk_reach (met := [c, b]) (by simp [hne]) ?_ (by simp) ?_ (asc_one _) (asc_one _) ?_ ?_
 ·intro y hy
  simp only [List.mem_cons, List.not_mem_nil, or_false] at hy
  rcases hy with rfl | rfl
  ·exact .inl rfl
  ·exact .inr ⟨p1, by rw [p2]; simp⟩
 ·intro y hy hp z hz
  simp only [List.mem_cons, List.not_mem_nil, or_false] at hy
  rcases hy with rfl | rfl
  ·rw [p2] at hz; simp at hz; simp [hz]
  ·rw [p4] at hp; simp at hp
 ·simp [List.filter_cons, p1, p4]
 ·simp [List.filter_cons, p1, p4]
theorem rch4 : IsReach s4 [] [xC] [xC] [xB] := rchM lv8.1 lv8.2.1 lv8.2.2
theorem rch5 : IsReach s5 [] [xC] [xC] [xB] := rchM lv9.1 lv9.2.1 lv9.2.2
end Go.Graft
namespace Go.Proofs.Tryz
open Go Go.Sym Go.Graft
set_option maxRecDepth 20000
theorem wholeX : wholeP s3 [] [xC, xB] [] = true := by decide +kernel
set_option maxHeartbeats 2000000 in
theorem cLives : Ctr prog 8 [] [] (bV true) [] [] := by
 have c1 := cPut true [] 1 [97, 98] (fun _ => rfl) (by simp)
 have c2 := cPut false s1 2 [] (fun h => by simp at h) (by decide)
 have c3 := cPut false s2 3 xBody (fun h => by simp at h) (by decide)
 rw [lv1.1, lv1.2.1, lv1.2.2] at c1
 rw [lv2.1, lv2.2.1, lv2.2.2] at c2
 rw [lv3.1, lv3.2.1, lv3.2.2] at c3
 have e0 : (!decide ((0 : Int) = 0)) = false := rfl
 rw [e0] at c1 c2 c3
 have cB := cBodyX xB (by decide) lv4
 have hb : bodyX xB = xBody := rfl
 rw [hb] at cB
 have cR := cReach false false s3 [xC] (by decide) (by simp) (by simp) [xC, xB] [] rch3
 simp only [if_true] at cR
 have cR2 := cReach false false s4 [xC] (by decide) (by simp) (by simp) [xC] [xB] rch4
 have hne : ¬ ([xB] : List Str) = [] := by simp
 simp only [if_neg hne] at cR2
 have cO1 := cOnlyP false false s3 [xC] (by decide) (by simp)
 have cO2 := cOnlyP false false s3 [xC, xA] (by decide) (by simp)
 rw [lv5.1, show s4.isEmpty = false from rfl] at cO1
 rw [lv5.2.1, show s5.isEmpty = false from rfl] at cO2
 have cM := cMissing false false s5 [xC] (by decide) (by simp) (by simp) [xC] [xB] rch5
 have cG := cGet false s3 xA (by decide)
 have cG2 := cGet false s3 [120] (by decide)
 rw [lv6.2.1, lv6.2.2.1, lv6.2.2.2.1] at cG
 rw [lv6.2.2.2.2.1] at cG2
 simp only [if_true, Bool.false_eq_true, if_false] at cG cG2
 have cV := cValid false s3 (by decide)
 rw [lv6.1] at cV
 have cI := cIds false s3 (by decide)
 have hl3 : s3.length = 3 := rfl
 have cH1 := cHas false s3 xB (by decide)
 have cH2 := cHas false s3 [] (by decide)
 rw [lv6.2.2.2.2.2.1] at cH1
 rw [lv6.2.2.2.2.2.2] at cH2
 have cW := cWholeP false true false s3 [] [xC] (by decide) (by simp) (by simp) (by simp) (by decide +kernel) [xC, xB] [] rch3 (by simp)
 rw [wholeX] at cW
 have cL := cLessP false false s3 s3 (by decide) (by decide)
 rw [lv5.2.2] at cL
 simp only [List.map_nil, List.map_cons, List.isEmpty_nil, List.isEmpty_cons] at c1 cB cR cR2 cO1 cO2 cM cW cL
 clear e0 hb hne
 generalize s5 = s5 at *
 generalize s4 = s4 at *
 generalize s2 = s2 at *
 generalize s1 = s1 at *
 generalize xBody = bd at *
 generalize xA = a at *
 generalize xC = c at *
 refine Ctr.enter tblOk func8 rfl (by decide) rfl (nt := 167) rfl rfl rfl rfl ?_
 refine Trip.sr tblOk ?_
 refine Trip.rk ⟨[(1, .ref 1 0), (2, sV a), (3, iV 0)], [(1, .box [.sl false 3 (s1.map It.pv)])]⟩ tblOk (by repeat' (first | exact rfl | (apply Rule.sem; intro hγ; with_reducible apply F_call0 (x := .func 12) (B := []) hγ (hspec := c1)) | ((with_reducible refine Side.mk ?_); exact .inl rfl) | constructor)) Weak.kp ?_
 refine Trip.rk ⟨[(1, .ref 1 0), (2, sV a), (3, iV 0), (4, sV xB), (5, iV 0)], [(1, .box [.sl false 3 (s2.map It.pv)])]⟩ tblOk (by repeat' (first | exact rfl | (apply Rule.sem; intro hγ; with_reducible apply F_call0 (x := .func 12) (B := []) hγ (hspec := c2)) | ((with_reducible refine Side.mk ?_); exact .inl rfl) | constructor)) Weak.kp ?_
 refine Trip.rk ⟨[(1, .ref 1 0), (2, sV a), (3, iV 0), (4, sV xB), (5, iV 0), (6, sV bd), (7, iV 0)], [(1, .box [.sl false 3 (s2.map It.pv)])]⟩ tblOk (by repeat' (first | exact rfl | (apply Rule.sem; intro hγ; with_reducible apply F_call0 (dst := some 35) (x := .func 38) (B := []) hγ (hspec := cPerson)) | (apply Rule.sem; intro hγ; with_reducible apply F_call0 (dst := some 36) (x := .func 38) (B := []) hγ (hspec := cPerson)) | (apply Rule.sem; intro hγ; with_reducible apply F_call0 (x := .func 37) (B := []) hγ (hspec := cB)) | ((with_reducible refine Side.mk ?_); exact .inl rfl) | constructor)) Weak.kp ?_
 refine Trip.rk ⟨[(1, .ref 1 0), (2, sV a), (3, iV 0), (4, sV xB), (5, iV 0), (8, sV c), (9, iV 0)], [(1, .box [.sl false 3 (s3.map It.pv)])]⟩ tblOk (by repeat' (first | exact rfl | (apply Rule.sem; intro hγ; with_reducible apply F_call0 (x := .func 12) (B := []) hγ (hspec := c3)) | ((with_reducible refine Side.mk ?_); exact .inl rfl) | constructor)) Weak.kp ?_
 refine Trip.rk ⟨[(1, .ref 1 0), (2, sV a), (3, iV 0), (4, sV xB), (5, iV 0), (8, sV c), (9, iV 0), (10, .sl false 1 [sV c, sV xB]), (11, iV 0)], [(1, .box [.sl false 3 (s3.map It.pv)])]⟩ tblOk (by repeat' (first | exact rfl | (apply Rule.sem; intro hγ; with_reducible apply F_callG (x := .func 25) (σ := []) (G := [52]) (news := []) hγ (hspec := cR)) | (with_reducible apply cvView (B := [52])) | constructor)) Weak.kp ?_
 refine Trip.rk ⟨[(1, .ref 1 0), (2, sV a), (3, iV 0), (4, sV xB), (5, iV 0), (8, sV c), (9, iV 0), (10, .sl false 1 [sV c, sV xB]), (11, iV 0), (13, iV 171)], [(1, .box [.sl false 3 (s3.map It.pv)])]⟩ tblOk (by repeat' (first | exact rfl | (apply Rule.sem; intro hγ; with_reducible apply F_callG (x := .func 23) (σ := []) (G := [59]) (news := []) hγ (hspec := cO1)) | (with_reducible apply cvView (B := [59])) | (apply Rule.sem; intro hγ; with_reducible apply F_callG (x := .func 25) (σ := []) (G := [62]) (news := []) hγ (hspec := cR2)) | (with_reducible apply cvView (B := [62])) | constructor)) Weak.kp ?_
 refine Trip.rk ⟨[(1, .ref 1 0), (2, sV a), (3, iV 0), (4, sV xB), (5, iV 0), (8, sV c), (9, iV 0), (10, .sl false 1 [sV c, sV xB]), (11, iV 0), (13, iV 171), (14, .ref 14 0), (15, iV 0)], [(1, .box [.sl false 3 (s3.map It.pv)]), (14, .box [iV 1, sV [97, 98]])]⟩ tblOk (by repeat' (first | exact rfl | (apply Rule.sem; intro hγ; with_reducible apply F_call0 (x := .func 15) (B := []) hγ (hspec := cG)) | ((with_reducible refine Side.mk ?_); exact .inl rfl) | constructor)) Weak.kp ?_
 refine Trip.rk ⟨[(1, .ref 1 0), (2, sV a), (3, iV 0), (4, sV xB), (5, iV 0), (8, sV c), (9, iV 0), (10, .sl false 1 [sV c, sV xB]), (11, iV 0), (13, iV 171), (14, .ref 14 0), (15, iV 0), (17, iV 5)], [(1, .box [.sl false 3 (s3.map It.pv)]), (14, .box [iV 1, sV [97, 98]])]⟩ tblOk (by repeat' (first | exact rfl | (apply Rule.sem; intro hγ; with_reducible apply F_call0 (x := .func 15) (B := []) hγ (hspec := cG2)) | ((with_reducible refine Side.mk ?_); exact .inl rfl) | constructor)) Weak.kp ?_
 refine Trip.rk ⟨[(1, .ref 1 0), (2, sV a), (3, iV 0), (4, sV xB), (5, iV 0), (8, sV c), (9, iV 0), (10, .sl false 1 [sV c, sV xB]), (11, iV 0), (13, iV 171), (14, .ref 14 0), (15, iV 0), (17, iV 5), (18, .sl false 1 [sV xB])], [(1, .box [.sl false 3 (s3.map It.pv)]), (14, .box [iV 1, sV [97, 98]])]⟩ tblOk (by repeat' (first | exact rfl | (apply Rule.sem; intro hγ; with_reducible apply F_callG (x := .func 23) (σ := []) (G := [80]) (news := []) hγ (hspec := cO2)) | (with_reducible apply cvView (B := [80])) | (apply Rule.sem; intro hγ; with_reducible apply F_callG (x := .func 27) (σ := []) (G := [83]) (news := []) hγ (hspec := cM)) | (with_reducible apply cvView (B := [83])) | constructor)) Weak.kp ?_
 refine Trip.sR tblOk (by repeat' (first | exact rfl | (apply Rule.sem; intro hγ; with_reducible apply F_call0 (x := .func 9) (B := []) hγ (hspec := cV)) | (apply Rule.sem; intro hγ; with_reducible apply F_call0 (x := .func 19) (B := []) hγ (hspec := cI)) | (apply Rule.sem; intro hγ; with_reducible apply F_call0 (dst := some 146) (x := .func 22) (B := []) hγ (hspec := cH1)) | (apply Rule.sem; intro hγ; with_reducible apply F_call0 (dst := some 150) (x := .func 22) (B := []) hγ (hspec := cH2)) | (apply Rule.sem; intro hγ; with_reducible apply F_call0 (x := .func 29) (B := [156]) hγ (hspec := cW)) | (apply Rule.sem; intro hγ; with_reducible apply F_call0 (x := .func 35) (B := []) hγ (hspec := cL)) | ((with_reducible refine Side.mk ?_); first | exact .inl rfl | exact .inr ⟨rfl, rfl, rfl⟩ | (simp only [ln]; first | done | omega)) | constructor)) ?_
 refine Trip.ret (rt1 [] (hc := by repeat' (exact cvB rfl)))
end Go.Proofs.Tryz
namespace Go.Proofs.Tryz
open Go Go.Sym Go.Graft
set_option maxRecDepth 20000
end Go.Proofs.Tryz
namespace Go.Sym
open Go.RowKit Go.WideShapes Go.ChangeShapes
def Opens (P : Program) (t : TypeId) {α : Type} (cells : α → List PV) (good : α → Prop) : Prop :=
 ∀ {H : Type} (enc : TypeId × Value → H) (w : World) (fuel : Nat) (cs : List Value) (x : DataW H × List MemPlace),
  DataW.trod enc P w 0 (fun _ => true) true fuel t cs = some x → (∀ n ∈ x.1.weights P t, n ≤ reachBytes) → ∃ a, good a ∧ RepL w (fun _ => False) noL (cells a) cs
section
variable {P : Program} {t e : TypeId}
theorem Opens.bool (h : P.underlying t = some .bool) : Opens P t (fun b : Bool => [bV b]) (fun _ => True) := fun enc w fuel cs x hx _ => by
 obtain ⟨b, rfl, rfl⟩ := DataW.trod_bool h hx
 exact ⟨b, trivial, .cons (.v _ _) (.nil _)⟩
theorem Opens.int {k : IntKind} (h : P.underlying t = some (.int k)) : Opens P t (fun n : Int => [.v (.int k n)]) (fun n => k.min ≤ n ∧ n ≤ k.max) := fun enc w fuel cs x hx _ => by
 obtain ⟨n, rfl, rfl, hw⟩ := DataW.trod_int h hx
 simp only [Lit.wf, Bool.and_eq_true, decide_eq_true_eq] at hw
 exact ⟨n, hw, .cons (.v _ _) (.nil _)⟩
theorem Opens.str (h : P.underlying t = some .string) : Opens P t (fun l : List UInt8 => [sV l]) (fun l => l.length ≤ reachBytes) := fun enc w fuel cs x hx hw => by
 obtain ⟨s, rfl, rfl, _⟩ := DataW.trod_string h hx
 exact ⟨s.data.toList, hw _ (by simp [DataW.weights]), .cons (.v _ _) (.nil _)⟩
theorem Opens.iso {α β : Type} {c1 : α → List PV} {c2 : β → List PV} {g1 : α → Prop} {g2 : β → Prop} (h : Opens P t c1 g1) (f : α → β) (hf : ∀ a, g1 a → g2 (f a) ∧ c1 a = c2 (f a)) : Opens P t c2 g2 := fun enc w fuel cs x hx hw => by
 obtain ⟨a, ha, hr⟩ := h enc w fuel cs x hx hw
 obtain ⟨h1, h2⟩ := hf a ha
 exact ⟨f a, h1, h2 ▸ hr⟩
theorem list_choice {α : Type} (p : Nat → α → Prop) : ∀ n : Nat, (∀ i, i < n → ∃ a, p i a) → ∃ l : List α, l.length = n ∧ ∀ (i : Nat) a, l[i]? = some a → p i a
 | 0, _ => ⟨[], rfl, fun i a h => by simp at h⟩
 | n + 1, h => by
  obtain ⟨l, h1, h2⟩ := list_choice p n (fun i hi => h i (by omega))
  obtain ⟨a, ha⟩ := h n (by omega)
  refine ⟨l ++ [a], by simp [h1], fun i b hb => ?_⟩
  rw [List.getElem?_append] at hb
  split at hb
  ·exact h2 i b hb
  ·have : i = n := by
    rcases Nat.lt_or_ge (i - l.length) 1 with h' | h'
    ·omega
    ·rw [List.getElem?_eq_none (by simpa using h')] at hb; simp at hb
   subst this
   rw [h1, Nat.sub_self] at hb
   simp at hb; subst hb; exact ha
theorem row_of {w : World} {b : Nat} : ∀ {ps : List PV} {cs : List Value} {off : Nat}, RepL w (fun _ => False) noL ps cs → (∀ i c, cs[i]? = some c → w.cell? ⟨b, off + i, none⟩ = some c) → Row w (fun _ => False) ps b off
 | [], _, off, h, _ => .nil b off
 | p :: ps, _, off, h, hc => by
  cases h with
  | cons h1 h2 =>
   refine .cons (hc 0 _ rfl) (fun h => h) h1 (row_of h2 fun i c hi => ?_)
   rw [show off + 1 + i = off + (i + 1) by omega]
   exact hc (i + 1) c (by simpa using hi)
theorem rows_ofY {w : World} {b sz : Nat} {α : Type} (f : α → PV) : ∀ (l : List α) (off : Nat), (∀ (i : Nat) a, l[i]? = some a → (f a).cells.length = sz ∧ Row w (fun _ => False) (f a).cells b (off + i * sz)) → Rows w (fun _ => False) sz (l.map f) b off
 | [], off, _ => .nil sz b off
 | a :: l, off, h => by
  obtain ⟨h1, h2⟩ := h 0 a rfl
  refine .cons h1 (by simpa using h2) (rows_ofY f l (off + sz) fun i c hi => ?_)
  obtain ⟨k1, k2⟩ := h (i + 1) c (by simpa using hi)
  refine ⟨k1, ?_⟩
  rw [show off + sz + i * sz = off + (i + 1) * sz by rw [Nat.succ_mul]; omega]
  exact k2
theorem weightsAll_mem {H : Type} {n : Nat} : ∀ {ds : List (DataW H)} {d : DataW H}, d ∈ ds → n ∈ d.weights P e → n ∈ DataW.weightsAll P e ds
 | [], d, h, _ => by simp at h
 | c :: ds, d, h, hn => by
  simp only [DataW.weightsAll, List.mem_append]
  rcases List.mem_cons.1 h with rfl | h
  ·exact .inl hn
  ·exact .inr (weightsAll_mem h hn)
theorem Opens.slice {α : Type} {cellsE : α → List PV} {goodE : α → Prop} {sz : Nat} (h : P.underlying t = some (.slice e)) (hs : P.cellsOf e = sz) (h0 : 0 < sz) (he : Opens P e cellsE goodE) (f : α → PV) (hf : ∀ a, (f a).cells = cellsE a) :
  Opens P t (fun x : Bool × List α => [.sl x.1 sz (x.2.map f)]) (fun x => (x.1 = true → x.2 = []) ∧ x.2.length * P.bytesOf e ≤ reachBytes ∧ ∀ a ∈ x.2, goodE a) := fun {H} enc w fuel cs x hx hw => by
 rcases Deep.open_slice h hx with ⟨rfl, rfl⟩ | ⟨a, len, cap, m, n, D, Pl, rfl, _, hlc, _, hm, rfl, hel⟩
 ·exact ⟨(true, []), ⟨fun _ => rfl, by simp, by simp⟩, .cons (.slNil _ _) (.nil _)⟩
 ·simp only [if_true] at hm
  subst hm
  have hbytes : len * P.bytesOf e ≤ reachBytes := by
   have := hw ((((List.range len).map D).length + ((List.range (m - len)).map fun j => D (len + j)).length) * P.bytesOf e) (by simp [DataW.weights, h])
   refine Nat.le_trans (Nat.mul_le_mul_right _ ?_) this
   simp
  have key : ∀ i, i < len → ∃ y : α, goodE y ∧ ∃ cs', w.cells? 0 (a.add (i * sz)) sz = some cs' ∧ RepL w (fun _ => False) noL (cellsE y) cs' := fun i hi => by
   obtain ⟨cs', k1, k2⟩ := hel i (by omega)
   obtain ⟨y, hy, hr⟩ := he enc w n cs' _ k2 (fun q hq => hw q (by
    simp only [DataW.weights, h, List.mem_cons, List.mem_append]
    exact .inr (.inl (weightsAll_mem (d := D i) (List.mem_map.2 ⟨i, by simpa using hi, rfl⟩) hq))))
   exact ⟨y, hy, cs', by rw [← hs]; exact k1, hr⟩
  obtain ⟨l, hl, hp⟩ := list_choice (fun i y => goodE y ∧ ∃ cs', w.cells? 0 (a.add (i * sz)) sz = some cs' ∧ RepL w (fun _ => False) noL (cellsE y) cs') len key
  refine ⟨(false, l), ⟨fun h => by simp at h, by simp only [hl]; exact hbytes, fun y hy => ?_⟩, .cons ?_ (.nil _)⟩
  ·obtain ⟨i, hi, rfl⟩ := List.getElem_of_mem hy
   exact (hp i _ (List.getElem?_eq_getElem hi)).1
  ·obtain ⟨b, off, spot⟩ := a
   by_cases hcap : m = 0
   ·have hl0 : len = 0 := by omega
    have : l = [] := List.eq_nil_of_length_eq_zero (by omega)
    subst this
    subst hcap
    subst hl0
    exact .slE _ _ _
   ·obtain ⟨cs', k1, _⟩ := hel 0 (by omega)
    rw [hs] at k1
    obtain ⟨_, g1, g2⟩ := World.cells?_some k1
    have g3 := g2 0 h0
    obtain ⟨c0, hc0⟩ : ∃ c0, cs'[0]? = some c0 := ⟨cs'[0], List.getElem?_eq_getElem (by omega)⟩
    rw [hc0] at g3
    have hspot : spot = none := by
     have := World.cell?_spot g3
     simpa [Addr.add] using this
    subst hspot
    refine .sl (by simp [hl]) hlc (rows_ofY f l off fun i y hy => ?_)
    obtain ⟨_, cs2, q1, q2⟩ := hp i y hy
    obtain ⟨_, q3, q4⟩ := World.cells?_some q1
    rw [hf y]
    refine ⟨by rw [repL_length q2, q3], row_of q2 fun j c hj => ?_⟩
    have hjs : j < sz := by
     rcases Nat.lt_or_ge j sz with h' | h'
     ·exact h'
     ·rw [List.getElem?_eq_none (by omega)] at hj; simp at hj
    have := q4 j hjs
    rw [Addr.add_lit, Addr.add_lit] at this
    rw [this, hj]
def OpensF (P : Program) (N : Nat) (fs : List Field) (k : Nat) {α : Type} (cells : α → List PV) (good : α → Prop) : Prop :=
 ∀ {H : Type} (enc : TypeId × Value → H) (w : World) (fuel : Nat) (cs : List Value) (xs : List (DataW H × List MemPlace)), cs.length = N → xs.length = fs.length →
  (∀ (i : Nat) (f : Field), fs[i]? = some f → DataW.trod enc P w 0 (fun _ => true) true fuel f.type ((cs.drop f.offset).take (P.cellsOf f.type)) = xs[i]?) →
  (∀ n ∈ DataW.weightsEach P (fs.map (·.type)) (xs.map (·.1)), n ≤ reachBytes) → ∃ a, good a ∧ RepL w (fun _ => False) noL (cells a) (cs.drop k)
theorem OpensF.nil {N k : Nat} (h : N ≤ k) : OpensF P N [] k (fun _ : Unit => []) (fun _ => True) := fun enc w fuel cs xs hc _ _ _ => by
 refine ⟨(), trivial, ?_⟩
 rw [List.drop_eq_nil_of_le (by omega)]
 exact .nil _
theorem repL_app {w : World} {F : Nat → Prop} {L : LMap} : ∀ {ps qs : List PV} {xs ys : List Value}, RepL w F L ps xs → RepL w F L qs ys → RepL w F L (ps ++ qs) (xs ++ ys)
 | [], _, _, _, h, k => by cases h; exact k
 | _ :: _, _, _, _, h, k => by cases h with | cons h1 h2 => exact .cons h1 (repL_app h2 k)
theorem OpensF.cons {N k s : Nat} {f : Field} {fs : List Field} {α β : Type} {c1 : α → List PV} {c2 : β → List PV} {g1 : α → Prop} {g2 : β → Prop} (ho : f.offset = k) (hs : P.cellsOf f.type = s) (h1 : Opens P f.type c1 g1) (h2 : OpensF P N fs (k + s) c2 g2) :
  OpensF P N (f :: fs) k (fun x : α × β => c1 x.1 ++ c2 x.2) (fun x => g1 x.1 ∧ g2 x.2) := fun {H} enc w fuel cs xs hc hl hx hw => by
 match xs, hl with
 | x :: xs, hl =>
  have e0 := hx 0 f rfl
  simp only [List.getElem?_cons_zero] at e0
  obtain ⟨a, ha, hra⟩ := h1 enc w fuel _ x e0 (fun n hn => hw n (by simp only [List.map_cons, DataW.weightsEach, List.mem_append]; exact .inl hn))
  obtain ⟨b, hb, hrb⟩ := h2 enc w fuel cs xs hc (by simpa using hl) (fun i g hi => by simpa using hx (i + 1) g (by simpa using hi)) (fun n hn => hw n (by simp only [List.map_cons, DataW.weightsEach, List.mem_append]; exact .inr hn))
  refine ⟨(a, b), ⟨ha, hb⟩, ?_⟩
  have := repL_app hra hrb
  rw [ho, hs, ← List.drop_drop, List.take_append_drop] at this
  exact this
theorem Opens.struct {fs : List Field} {α : Type} {cells : α → List PV} {good : α → Prop} (h : P.underlying t = some (.struct fs.toArray)) (hf : OpensF P (P.cellsOf t) fs 0 cells good) : Opens P t cells good := fun {H} enc w fuel cs x hx hw => by
 obtain ⟨xs, n, rfl, rfl, hl, hlen, hget⟩ := DataW.trod_struct h hx
 obtain ⟨a, ha, hr⟩ := hf enc w n cs xs hl (by simpa using hlen) (fun i f hi => hget i f (by simpa using hi)) (fun n hn => hw n (by simpa [DataW.weights, h] using hn))
 exact ⟨a, ha, by simpa using hr⟩
def OpensA (P : Program) (t : TypeId) {α : Type} (pv : α → PV) (good : α → Prop) : Prop :=
 ∀ {H : Type} (enc : TypeId × Value → H) (w : World) (base : Nat) (v : Value) (d : DataW H) (ps : List MemPlace), Value.okWide P w .any base t v → DataW.Trod enc P w 0 (fun _ => true) true t v d ps → (∀ n ∈ d.weights P t, n ≤ reachBytes) →
  ∃ a, good a ∧ Rep w (fun _ => False) noL (pv a) v
theorem OpensA.struct {α : Type} {cells : α → List PV} {good : α → Prop} {fs : Array Field} (hu : P.underlying t = some (.struct fs)) (h : Opens P t cells good) : OpensA P t (fun a => .agg (cells a)) good := fun {H} enc w base v d ps hv hd hw => by
 unfold Value.okWide at hv
 rw [hu] at hv
 obtain ⟨cs, rfl, _⟩ := hv
 obtain ⟨fuel, hx⟩ := hd
 obtain ⟨a, ha, hr⟩ := h enc w fuel _ _ hx hw
 exact ⟨a, ha, .agg hr⟩
theorem no_agg {w : World} {r : Reach} {base : Nat} {cs : Array Value} (h : Cell.okWide P w r base t (.agg cs)) : False := by
 unfold Cell.okWide at h
 split at h <;> simp_all [Cell.ok]
theorem OpensA.one {α : Type} {p : α → PV} {good : α → Prop} {td : TypeDesc} (hu : P.underlying t = some td) (hn : isAggD td = false) (h : Opens P t (fun a => [p a]) good) : OpensA P t p good := fun {H} enc w base v d ps hv hd hw => by
 have hv' : Cell.okWide P w .any base t v := by
  unfold Value.okWide at hv
  rw [hu] at hv
  cases td <;> simp [isAggD] at hn <;> exact hv
 obtain ⟨fuel, hx⟩ := hd
 obtain ⟨a, ha, hr⟩ := h enc w fuel _ _ hx hw
 refine ⟨a, ha, ?_⟩
 have hc : v.cells.toList = [v] := by
  cases v <;> first | rfl | exact (no_agg hv').elim
 rw [hc] at hr
 cases hr with
 | cons h1 _ => exact h1
def OpensL (P : Program) (ts : List TypeId) {α : Type} (pvs : α → List PV) (good : α → Prop) : Prop :=
 ∀ {H : Type} (enc : TypeId × Value → H) (w : World) (base : Nat) (vs : List Value) (ds : List (DataW H)) (ps : List MemPlace), (∀ (j : Nat) t v, ts[j]? = some t → vs[j]? = some v → Value.okWide P w .any base t v) →
  DataW.TrodAll enc P w 0 (fun _ => true) true ts vs ds ps → (∀ n ∈ DataW.weightsEach P ts ds, n ≤ reachBytes) → ∃ a, good a ∧ RepL w (fun _ => False) noL (pvs a) vs
theorem OpensL.nil : OpensL P [] (fun _ : Unit => []) (fun _ => True) := fun enc w base vs ds ps _ h _ => by
 obtain ⟨rfl, rfl, rfl⟩ := trodAll_nil h
 exact ⟨(), trivial, .nil _⟩
theorem OpensL.cons {ts : List TypeId} {α β : Type} {p : α → PV} {ps : β → List PV} {g1 : α → Prop} {g2 : β → Prop} (h1 : OpensA P t p g1) (h2 : OpensL P ts ps g2) : OpensL P (t :: ts) (fun x : α × β => p x.1 :: ps x.2) (fun x => g1 x.1 ∧ g2 x.2) := fun {H} enc w base vs ds qs hv h hw => by
 obtain ⟨v, vs1, d, ds1, a, b, rfl, rfl, rfl, k1, k2⟩ := trodAll_cons h
 obtain ⟨x, hx, hrx⟩ := h1 enc w base v d a (hv 0 t v rfl rfl) k1 (fun n hn => hw n (by simp only [DataW.weightsEach, List.mem_append]; exact .inl hn))
 obtain ⟨y, hy, hry⟩ := h2 enc w base vs1 ds1 b (fun j u z hu hz => hv (j + 1) u z (by simpa using hu) (by simpa using hz)) k2 (fun n hn => hw n (by simp only [DataW.weightsEach, List.mem_append]; exact .inr hn))
 exact ⟨(x, y), ⟨hx, hy⟩, .cons hrx hry⟩
end
section
variable {H : Type} {enc : TypeId × Value → H} {P : Program}
theorem post_of_below {f : Func} {s : ChangeSpec} {apart fresh handsOn again : Bool} {W W' : World} {args : Array Value} {v : Value} {ds gs : List (DataW H)} {before pa pv : List MemPlace}
  (hW : DataW.Whole enc P f.params.toList s.vars apart W args.toList ds gs before)
  (hres : ∀ (b : Nat) (sp : Nat → Bool) (hd : Bool), DataW.TrodAll enc P W' b sp hd f.resultTypes.toList (v.resultList f.resultTypes.size) (s.fn H (ds ++ gs)).results [])
  (hargs : ∀ sp : Nat → Bool, (∀ p ∈ before, sp p.block = true) → DataW.TrodAll enc P W' 0 sp true f.params.toList args.toList (s.fn H (ds ++ gs)).args pa)
  (hvars : ∀ sp : Nat → Bool, (∀ p ∈ before, sp p.block = true) → DataW.TrodVars enc P W' sp s.vars (s.fn H (ds ++ gs)).vars pv)
  (hps : before = pa ++ pv) (hb : Below W.heap.size W W')
  (hok : ∀ (j : Nat) (t : TypeId) (r : Value), f.resultTypes[j]? = some t → (v.resultList f.resultTypes.size)[j]? = some r → Value.okWide P W' .any 0 t r) :
  s.post enc P f apart fresh handsOn again W args v W' := by
 have hlt : ∀ p ∈ before, p.block < W.heap.size := fun p hp => hW.lt p hp
 have hold : ∀ p ∈ before, (fun b => decide (b < W.heap.size)) p.block = true := fun p hp => by simpa using hlt p hp
 refine ⟨ds, gs, before, [], pa, pv, hW, hres _ _ _, hargs _ hold, hvars _ hold, World.keptBut_mono (fun p hp => ⟨hp, ?_⟩) (hb.frame (· ∈ before)), fun _ => ?_⟩
 ·rw [hps, List.mem_append] at hp
  exact Or.inr hp
 ·obtain ⟨_, _, _, _, _, hz, hn⟩ := hW
  refine ⟨hok, _, _, ([] ++ pa) ++ pv, ⟨[] ++ pa, pv, trodAll_append (hargs _ (fun _ _ => rfl)) (hres _ _ _), hvars _ (fun _ _ => rfl), rfl, ?_, ?_⟩, ?_⟩
  ·intro b off hp
   have hin : MemPlace.cell b off ∈ before := by rw [hps]; simpa using hp
   rw [hb.frozen (hlt _ hin)]
   exact hz b off hin
  ·intro ha
   have := hn ha
   rw [hps] at this
   simpa using this
  ·intro p hp _
   rw [hps]
   simpa using hp
theorem trodAll_stays (hl : laidOutB P = true) {W W' : World} (hb : Below W.heap.size W W') {sp : Nat → Bool} : ∀ {ts : List TypeId} {vs : List Value} {ds : List (DataW H)} {ps : List MemPlace}, ts.all (fun t => P.readableRec t && decide (t < P.types.size)) = true →
  (∀ p ∈ ps, p.block < W.heap.size) → (∀ p ∈ ps, sp p.block = true) → DataW.TrodAll enc P W 0 (fun _ => true) true ts vs ds ps → DataW.TrodAll enc P W' 0 sp true ts vs ds ps
 | [], _, _, _, _, _, _, h => by
  obtain ⟨rfl, rfl, rfl⟩ := trodAll_nil h
  exact rfl
 | t :: ts, _, _, _, hr, hlt, hs, h => by
  simp only [List.all_cons, Bool.and_eq_true, decide_eq_true_eq] at hr
  obtain ⟨v, vs1, d, ds1, a, b, rfl, rfl, rfl, k1, k2⟩ := trodAll_cons h
  exact ⟨a, b, WideElems.Trod_stays hl hr.1.1 hr.1.2 k1 (fun x hx => hb.same (hlt x (by simp [hx]))) (fun x hx => hs x (by simp [hx])),
   trodAll_stays hl hb hr.2 (fun p hp => hlt p (by simp [hp])) (fun p hp => hs p (by simp [hp])) k2, rfl⟩
structure IsLaw (s : ChangeSpec) (n : Nat) : Prop where
 vars : s.vars = []
 fn : ∀ (H : Type) (ds : List (DataW H)), ds.length = n → s.fn H ds = { results := [.lit (.bool true)], args := ds }
theorem trodAll_length {w : World} {base : Nat} {sp : Nat → Bool} {hd : Bool} : ∀ {ts : List TypeId} {vs : List Value} {ds : List (DataW H)} {ps : List MemPlace}, DataW.TrodAll enc P w base sp hd ts vs ds ps → ds.length = ts.length
 | [], _, _, _, h => by obtain ⟨rfl, rfl, rfl⟩ := trodAll_nil h; rfl
 | t :: ts, _, _, _, h => by
  obtain ⟨v, vs1, d, ds1, a, b, rfl, rfl, rfl, k1, k2⟩ := trodAll_cons h
  simp [trodAll_length k2]
theorem law_calls [Globs P] {f : FuncId} {fn : Func} {s : ChangeSpec} {α : Type} {pvs : α → List PV} {good : α → Prop} {tb : TypeId} {params : List TypeId} (hp : fn.params = params.toArray) (hres : fn.resultTypes = #[tb]) (htb : P.underlying tb = some .bool) (hs : IsLaw s params.length)
  (hl : laidOutB P = true) (hr : params.all (fun t => P.readableRec t && decide (t < P.types.size)) = true) (hop : OpensL P params pvs good) (hc : ∀ a, good a → Ctr P f (pvs a) [] (bV true) [] [])
  (W : World) (hgl : ∀ x ∈ Globs.gl P, ∃ v, W.heap[x.1]? = some v ∧ x.2 v) (base : Nat) (args : Array Value) (ds gs : List (DataW H)) (before : List MemPlace) (hval : ∀ (j : Nat) t v, fn.params[j]? = some t → args[j]? = some v → Value.okWide P W .any base t v)
  (hW : DataW.Whole enc P fn.params.toList s.vars false W args.toList ds gs before) (hz : (DataW.weightsEach P (fn.params.toList ++ s.plain.varTypes P) (ds ++ gs)).all (· ≤ reachBytes) = true) :
  Calls P f args W fun e W' => ∃ v, e = .returned v ∧ s.post enc P fn false true false false W args v W' := by
 have hW' := hW
 obtain ⟨pa, q, hA, hV, rfl, _, _⟩ := hW
 rw [hs.vars] at hV
 obtain ⟨rfl, rfl⟩ : gs = [] ∧ q = [] := by
  cases gs with
  | nil => exact ⟨rfl, hV⟩
  | cons => exact hV.elim
 have hpl : fn.params.toList = params := by rw [hp]
 rw [hpl] at hA
 have hlen := trodAll_length hA
 have hvt : s.plain.varTypes P = [] := by simp [DataSpec.varTypes, ChangeSpec.plain, hs.vars]
 rw [hpl, hvt, List.append_nil, List.append_nil] at hz
 obtain ⟨a, ha, hrep⟩ := hop enc W base args.toList ds pa (fun j t v h1 h2 => hval j t v (by rw [hp]; simpa using h1) (by simpa using h2)) hA (fun n hn => by simpa using (List.all_eq_true.1 hz) n hn)
 obtain ⟨_, hcall⟩ := hc a ha
 let fr : Fr := ⟨W, fun _ => False, [], noL, 0, Globs.gl P⟩
 have hrm : RM fr ⟨[], named PN []⟩ fr.L0 W := by
  exact ⟨fun n ob h => (by simp [St.obj, named, look] at h), fun n l h => (by cases h), fun n n' l l' b h => (by cases h), fun n l b h => (by cases h), fun n l b h => (by cases h), ⟨fun p h => (by cases h), fun p h => (by cases h)⟩, fun b h => h.elim, ⟨rfl, rfl, rfl, Nat.le_refl _, fun _ _ _ => rfl, fun p h => (by cases h), fun x hx => hgl x hx, fun x hx => ⟨(by obtain ⟨v, h, _⟩ := hgl x hx; exact (Array.getElem?_eq_some_iff.1 h).1), fun p h => (by cases h)⟩⟩, LExt.refl _⟩
 have hF : ∀ b, fr.F fr.L0 b → False := fun b h => by
  rcases h with h | ⟨o, l, h, _⟩
  ·exact h
  ·cases h
 have h0 := hcall fr W args.toList rfl rfl hrm (hrep.mono (fun b s hx _ => ⟨hx, fun h => hF b h⟩) (LExt.refl _))
 have hargs : args.toList.toArray = args := by simp
 rw [hargs] at h0
 refine h0.mono ?_
 rintro e W' ⟨v, L', rfl, _, hM, hv⟩
 obtain rfl := hv.inv_v
 have hfr := hM.frame
 have hb : Below W.heap.size W W' := ⟨hfr.os, hfr.tape, hfr.output, hfr.size, fun k hk => hfr.block k hk (fun p h => (by cases h))⟩
 refine ⟨_, rfl, post_of_below (pa := pa) (pv := []) hW' ?_ ?_ ?_ rfl hb ?_⟩
 ·intro b sp hd
  rw [List.append_nil, hs.fn H ds hlen, hres]
  exact trodAll_mk1 (shut_bool htb true)
 ·intro sp hsp
  rw [List.append_nil, hs.fn H ds hlen, hpl]
  exact trodAll_stays hl hb hr (fun p hp => hW'.lt p (by simpa using hp)) (fun p hp => hsp p (by simpa using hp)) hA
 ·intro sp _
  rw [hs.vars, List.append_nil, hs.fn H ds hlen]
  exact rfl
 ·intro j t r h1 h2
  rw [hres] at h1 h2
  match j with
  | 0 =>
   simp at h1; subst h1
   have : r = .bool true := by simpa [Value.resultList] using h2.symm
   subst this
   simp [Value.okWide, htb, Cell.okWide, Cell.ok]
  | j + 1 => simp at h1
end
end Go.Sym
