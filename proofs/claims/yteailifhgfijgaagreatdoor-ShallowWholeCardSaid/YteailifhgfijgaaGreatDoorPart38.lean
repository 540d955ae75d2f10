/- A part of the proof: Sa, Hins, Sc, GLiv, GLsh, Wh. -/
import Derived.Test.YteailifhgfijgaaGreatDoorPart37
set_option linter.unusedVariables false
set_option linter.unusedSimpArgs false
namespace Go.Proofs.Tryz
open Go Go.Sym Go.Graft
set_option maxRecDepth 20000
theorem cLinksN (k : Int) (b : Str) (cut : Bool) : Ctr prog 121 [objPV k b, bV cut] [] (.sl (linksOf k b).isEmpty 1 ((nmsOf k b cut).map fun x => sV x)) [] [] := by
 have c1 := cLinks k b
 have hn : nmsOf k b cut = if (cut && decide (k = 3)) = true then (linksOf k b).take 1 else linksOf k b := rfl
 generalize nmsOf k b cut = N at *
 generalize linksOf k b = l at *
 refine Ctr.enter tblOk func121 rfl (by decide) rfl (nt := 26) rfl rfl rfl rfl ?_
 refine Trip.sr tblOk ?_
 refine Trip.sR tblOk (by repeat' (first | exact rfl | (apply Rule.sem; intro hγ; with_reducible apply F_call0 (x := .func 36) (B := []) hγ (hspec := c1)) | ((with_reducible refine Side.mk ?_); exact .inl rfl) | constructor)) ?_
 refine Trip.seqk ⟨[(5, .sl l.isEmpty 1 (N.map fun x => sV x))], []⟩ ?_ ?_
 ·refine Trip.sR tblOk (by repeat' (first | exact rfl | ((with_reducible refine Side.mk ?_); first | exact fun h => h | exact fun _ h => h) | constructor)) ?_
  apply Trip.cond (.tmp rfl)
  ·intro h
   have h : (cut && decide (k = 3) && decide (0 < (((l.map fun x => sV x).length : Nat) : Int))) = true := h
   rw [List.length_map] at h
   simp only [Bool.and_eq_true, decide_eq_true_eq] at h
   rw [if_pos (by simp [h.1])] at hn
   subst hn
   rw [List.map_take]
   refine Trip.R tblOk (by repeat' (first | exact rfl | ((with_reducible refine bokR ?_); (simp only [ln]; first | done | omega)) | constructor)) ?_
   exact Weak.kp
  ·intro h
   have h : (cut && decide (k = 3) && decide (0 < (((l.map fun x => sV x).length : Nat) : Int))) = false := h
   rw [List.length_map] at h
   have hN : N = l := by
    rw [hn]
    split
    ·rename_i h2
     rw [h2] at h
     simp at h
     rw [List.take_of_length_le (by simp [h])]
    ·rfl
   subst hN
   refine Trip.skip ?_
   exact Weak.kp
 refine Trip.sr tblOk ?_
 refine Trip.ret (rt1 [])
theorem cRight17 (nl : Bool) (l : List It) (hs : l.length ≤ 1000000000) : Ctr prog 21 [stPV nl l] [] (bV (rightSt l)) [] [] := by
 refine Ctr.enter tblOk func21 rfl (by decide) rfl (nt := 53) rfl rfl rfl rfl ?_
 refine Trip.sr tblOk ?_
 refine Trip.seq (Trip.sr tblOk ?_)
 apply Trip.cond (.tmp rfl)
 ·intro h
  have h : (65536 : Int) < l.length := by simpa using h
  rw [right_big h]
  refine Trip.sr tblOk ?_
  refine Trip.ret (rt1 [] (hc := by repeat' (exact cvB (by simp only [List.length_map]))))
 intro h
 have h0 : (l.length : Int) ≤ 65536 := by simp at h; omega
 refine Trip.skip (Trip.seq (Trip.sr tblOk ?_))
 refine Trip.block ?_
 refine Trip.loop (fun (i : Nat) => ⟨[(1, .ref 1 0), (3, iV i)], [(1, .box [.sl nl 3 (l.map It.pv)])]⟩) (fun (i : Nat) => i ≤ l.length ∧ ∀ j, j < i → itemBad l j = false) (fun (i : Nat) => l.length - i) (0) (by exact ⟨Nat.zero_le _, fun j hj => absurd hj (by omega)⟩) Weak.kp ?_
 intro i hi
 obtain ⟨hi, hj⟩ := hi
 refine Trip.seq (Trip.sr tblOk ?_)
 apply Trip.cond (.tmp rfl)
 ·intro h
  have h : i < l.length := by simp at h; omega
  have e1 : ((i : Int) - 1).toNat = i - 1 := by omega
  have hb : itemBad l i = ((decide (0 < (i : Int)) && !Op.bytesLess l[((i : Int) - 1).toNat]!.id l[i]!.id) || !decide (wholeE l[i]!.kind l[i]!.body = 0) || !decide (objId l[i]!.kind l[i]!.body = l[i]!.id)) := by rw [e1]; rfl
  have hno := right_no h
  have c2 := cWhole16 l[i]!.kind l[i]!.body
  have c3 := cId2 l[i]!.kind l[i]!.body
  generalize wholeE l[i]!.kind l[i]!.body = we at *
  generalize objId l[i]!.kind l[i]!.body = oi at *
  refine Trip.skip (Trip.seq (Trip.block (Trip.sR tblOk (by repeat' (first | exact rfl | exact idx_map _ _ _ (by show _ < _; first | omega | (simp only [List.length_map] at *; omega)) | ((with_reducible refine Side.mk ?_); (simp only [ln]; first | done | omega)) | constructor)) ?_)))
  refine Trip.sr tblOk ?_
  refine Trip.sD tblOk mixed (by repeat' (first | exact rfl | (apply Rule.under tblOk; intro hγ; with_reducible apply Rule.indexAddr) | exact idx_map _ _ _ (by have h2 := hγ; simp only [gpick, cond_true, cond_false, decide_eq_true_eq, Bool.and_eq_true, Bool.or_eq_true, Bool.not_eq_true', Bool.not_eq_false', Bool.or_eq_false_iff, decide_eq_false_iff_not, List.length_map] at h2; show _ < _; omega) | (apply Rule.sem; intro hγ; with_reducible apply F_call0 (x := .func 38) (B := []) hγ (hspec := c2)) | (apply Rule.sem; intro hγ; with_reducible apply F_call0 (x := .func 44) (B := []) hγ (hspec := c3)) | ((with_reducible refine Side.mk ?_); first | omega | exact .inl rfl | exact fun h => h | exact fun _ h => h | exact fun _ h => congrArg Bool.not h | exact fun _ => hγ | (have h2 := hγ; simp only [gpick, cond_true, cond_false, decide_eq_true_eq, Bool.and_eq_true, Bool.or_eq_true, Bool.not_eq_true', Bool.not_eq_false', Bool.or_eq_false_iff, decide_eq_false_iff_not, List.length_map] at h2; (try simp only [List.length_map]); omega)) | constructor)) ?_
  apply Trip.cond (.tmp rfl)
  ·intro h2
   have h2 : itemBad l i = true := by rw [hb]; exact h2
   rw [hno h2]
   refine Trip.sr tblOk ?_
   refine Trip.ret (rt1 [] (hc := by repeat' (exact cvB (by simp only [List.length_map]))))
  intro h2
  have h2 : itemBad l i = false := by rw [hb]; exact h2
  refine Trip.skip (Trip.R tblOk (by repeat' (first | exact rfl | ((with_reducible refine Side.mk ?_); omega) | constructor)) ?_)
  exact ⟨i + 1, by exact ⟨by omega, fun j h3 => (Nat.lt_succ_iff_lt_or_eq.1 h3).elim (hj j) (fun e => e ▸ h2)⟩, by first | omega | (dsimp only at *; omega), Weak.kp⟩
 intro h
 have h : i = l.length := by simp at h; omega
 subst h
 rw [right_yes h0 hj]
 refine Trip.exit (Trip.sr tblOk ?_)
 refine Trip.ret (rt1 [] (hc := by repeat' (exact cvB (by simp only [List.length_map]))))
end Go.Proofs.Tryz
namespace Go.Proofs.Tryz
open Go Go.Sym Go.Graft
set_option maxRecDepth 20000
end Go.Proofs.Tryz
namespace Go.Proofs.Tryz
open Go Go.Sym Go.Graft
set_option maxRecDepth 20000
theorem putE_whole {l : List It} {k : Int} {b : Str} (h : wholeE k b ≠ 0) : putE l k b = wholeE k b := by rw [putE, if_pos h]
theorem putE_clash {l : List It} {k : Int} {b : Str} (h : wholeE k b = 0) (h2 : clashP l k b = true) : putE l k b = 170 := by rw [putE, if_neg (by simp [h]), if_pos h2]
theorem putE_big {l : List It} {k : Int} {b : Str} (h : wholeE k b = 0) (h2 : clashP l k b = false) (h3 : (!placed l (objId k b) && decide ((65536 : Int) ≤ l.length)) = true) : putE l k b = 4 := by rw [putE, if_neg (by simp [h]), if_neg (by simp [h2]), if_pos h3]
theorem putE_ok {l : List It} {k : Int} {b : Str} (h : wholeE k b = 0) (h2 : clashP l k b = false) (h3 : (!placed l (objId k b) && decide ((65536 : Int) ≤ l.length)) = false) : putE l k b = 0 := by rw [putE, if_neg (by simp [h]), if_neg (by simp [h2]), if_neg (by rw [h3]; simp)]
set_option maxHeartbeats 1000000 in
theorem cPut17 (nl : Bool) (l : List It) (k : Int) (b : Str) (hnl : nl = true → l = []) (hs : l.length ≤ 1000000000) : Ctr prog 47 [stPV nl l, objPV k b] [] (.tup [stPV (!decide (putE l k b = 0)) (putL l k b), sV (putI l k b), iV (putE l k b)]) [] [] := by
 have c1 := cWhole16 k b
 have c2 := cId2 k b
 have c3 := cPlace2 nl l (objId k b) hs
 have e1 := putE_whole (l := l) (k := k) (b := b)
 have e2 := putE_clash (l := l) (k := k) (b := b)
 have e3 := putE_big (l := l) (k := k) (b := b)
 have e4 := putE_ok (l := l) (k := k) (b := b)
 have hL : putL l k b = if putE l k b ≠ 0 then [] else if placed l (objId k b) = true then l else l.take (place l (objId k b)) ++ (⟨objId k b, k, b⟩ :: l.drop (place l (objId k b))) := rfl
 have hI : putI l k b = if putE l k b ≠ 0 then [] else objId k b := rfl
 have hc : clashP l k b = (placed l (objId k b) && !(decide (l[place l (objId k b)]!.kind = k) && decide (l[place l (objId k b)]!.body = b))) := rfl
 have hple := place_le l (objId k b)
 have hplt := placed_lt (l := l) (x := objId k b)
 generalize clashP l k b = cl at *
 generalize putL l k b = pL at *
 generalize putI l k b = pI at *
 generalize putE l k b = pE at *
 generalize wholeE k b = we at *
 generalize objId k b = id at *
 generalize placed l id = pd at *
 generalize place l id = p at *
 refine Ctr.enter tblOk func47 rfl (by decide) rfl (nt := 80) rfl rfl rfl rfl ?_
 refine Trip.sr tblOk ?_
 refine Trip.seq (Trip.sR tblOk (by repeat' (first | exact rfl | (apply Rule.sem; intro hγ; with_reducible apply F_call0 (x := .func 38) (B := []) hγ (hspec := c1)) | ((with_reducible refine Side.mk ?_); exact .inl rfl) | constructor)) ?_)
 refine Trip.sr tblOk ?_
 apply Trip.cond (.tmp rfl)
 ·intro h
  have h : we ≠ 0 := by simpa using h
  have e1 := e1 h
  rw [if_pos (by omega)] at hL hI
  subst hL
  subst hI
  subst e1
  rw [decide_eq_false h]
  refine Trip.sr tblOk ?_
  refine Trip.ret (rt3 [])
 intro h
 have h : we = 0 := by simpa using h
 have e2 := e2 h
 have e3 := e3 h
 have e4 := e4 h
 refine Trip.skip (Trip.sR tblOk (by repeat' (first | exact rfl | (apply Rule.sem; intro hγ; with_reducible apply F_call0 (x := .func 44) (B := []) hγ (hspec := c2)) | ((with_reducible refine Side.mk ?_); exact .inl rfl) | constructor)) ?_)
 refine Trip.sR tblOk (by repeat' (first | exact rfl | (apply Rule.sem; intro hγ; with_reducible apply F_call0 (x := .func 37) (B := []) hγ (hspec := c3)) | ((with_reducible refine Side.mk ?_); exact .inl rfl) | constructor)) ?_
 refine Trip.seq (Trip.sr tblOk ?_)
 apply Trip.cond (.tmp rfl)
 ·intro hp
  have hp : pd = true := hp
  subst hp
  obtain ⟨hp1, hp2⟩ := hplt rfl
  have hnlf : nl = false := by
   cases nl with
   | false => rfl
   | true => rw [hnl rfl] at hp1; simp at hp1
  have hc : cl = (!decide (l[p]!.kind = k) || !decide (l[p]!.body = b)) := by rw [hc, Bool.true_and, Bool.not_and]
  refine Trip.seq (Trip.sD tblOk mixed (by repeat' (first | exact rfl | exact idx_map _ _ _ (by show _ < _; first | omega | (simp only [List.length_map] at *; omega)) | ((with_reducible refine Side.mk ?_); first | exact fun h => h | exact fun _ h => congrArg Bool.not h | (simp only [ln]; first | done | omega)) | constructor)) ?_)
  apply Trip.cond (.tmp rfl)
  ·intro h2
   have h2 : cl = true := by rw [hc]; exact h2
   have e2 := e2 h2
   rw [if_pos (by omega)] at hL hI
   subst hL
   subst hI
   subst e2
   refine Trip.sr tblOk ?_
   refine Trip.ret (rt3 [])
  intro h2
  have h2 : cl = false := by rw [hc]; exact h2
  have e4 := e4 h2 rfl
  subst e4
  rw [if_neg (by simp), if_pos rfl] at hL
  rw [if_neg (by simp)] at hI
  subst hL
  subst hI
  subst hnlf
  refine Trip.skip (Trip.sr tblOk ?_)
  refine Trip.ret (rt3 [])
 intro hp
 have hp : pd = false := hp
 subst hp
 have hc : cl = false := by rw [hc]; rfl
 have e3 := e3 hc
 have e4 := e4 hc
 refine Trip.skip (Trip.seq (Trip.sr tblOk ?_))
 apply Trip.cond (.tmp rfl)
 ·intro h2
  have h2 : decide ((65536 : Int) ≤ l.length) = true := by simpa using h2
  have e3 := e3 (by rw [h2]; rfl)
  rw [if_pos (by omega)] at hL hI
  subst hL
  subst hI
  subst e3
  refine Trip.sr tblOk ?_
  refine Trip.ret (rt3 [])
 intro h2
 have h2 : decide ((65536 : Int) ≤ l.length) = false := by simpa using h2
 have e4 := e4 (by rw [h2]; rfl)
 subst e4
 rw [if_neg (by simp), if_neg (by simp)] at hL
 rw [if_neg (by simp)] at hI
 subst hI
 refine Trip.skip ?_
 have k1 : ∀ m, cellsOkL (cellsOf (((l.map It.pv).take m).drop 0)) = true := fun m => by rw [List.drop_zero, ← List.map_take]; exact cellsOk_map _ (fun _ => rfl) _
 have k2 : ∀ m, cellsOkL (cellsOf (((l.map It.pv).take (l.map It.pv).length).drop m)) = true := fun m => by rw [List.take_length, ← List.map_drop]; exact cellsOk_map _ (fun _ => rfl) _
 refine Trip.rk ⟨[(2, .ref 2 0), (3, .ref 3 0), (4, .ref 4 0), (8, sV pI), (9, iV p), (11, .osl 56 0 (l.take p).length (l.take p).length)], [(2, .box [.sl nl 3 (l.map It.pv)]), (3, .box [iV k, sV b]), (4, .box [nilS]), (56, .arr 3 false ((l.take p).map It.pv))]⟩ tblOk (by repeat' (first | exact rfl | exact k1 _ | ((first | with_reducible refine bokR ?_ | with_reducible refine Side.mk ?_); (simp only [ln]; first | done | omega)) | constructor)) (Weak.kp (ht := by repeat' (first | exact rfl | (refine Side.mk (oslE ?_ ?_) <;> simp [loOf, hiOf]) | constructor)) (ho := by repeat' (first | exact rfl | exact arrF (by simp) (by simp [loOf, hiOf]) | constructor)) (huo := by repeat' (first | exact rfl | exact plainL_map _ (fun _ => rfl) _ | constructor))) ?_
 refine Trip.rk ⟨[(2, .ref 2 0), (4, .ref 4 0), (8, sV pI), (9, iV p), (11, .osl 56 0 (l.take p ++ [It.mk pI k b]).length (l.take p ++ [It.mk pI k b]).length)], [(2, .box [.sl nl 3 (l.map It.pv)]), (4, .box [nilS]), (56, .arr 3 false ((l.take p ++ [It.mk pI k b]).map It.pv))]⟩ tblOk (by repeat' (first | exact rfl | ((with_reducible refine Side.mk ?_); (simp only [ln]; first | done | omega)) | constructor)) (Weak.kp (ht := by repeat' (first | exact rfl | (refine Side.mk (oslE ?_ ?_) <;> simp) | constructor)) (ho := by repeat' (first | exact rfl | exact arrF (by simp) (by simp) | constructor)) (huo := by repeat' (first | exact rfl | exact plainL_map _ (fun _ => rfl) _ | constructor))) ?_
 refine Trip.rk ⟨[(4, .ref 4 0), (8, sV pI), (11, .osl 56 0 pL.length pL.length)], [(4, .box [nilS]), (56, .arr 3 false (pL.map It.pv))]⟩ tblOk (by repeat' (first | exact rfl | exact k2 _ | ((first | with_reducible refine bokL ?_ | with_reducible refine Side.mk ?_); (simp only [ln]; first | done | omega)) | constructor)) (Weak.kp (ht := by repeat' (first | exact rfl | (rw [hL]; refine Side.mk (oslE ?_ ?_) <;> simp [loOf, hiOf, List.take_of_length_le]) | constructor)) (ho := by repeat' (first | exact rfl | exact arrF (by simp) (by rw [hL]; simp [loOf, hiOf, List.take_of_length_le]) | constructor)) (huo := by repeat' (first | exact rfl | exact plainL_map _ (fun _ => rfl) _ | constructor))) ?_
 refine Trip.sr tblOk ?_
 refine Trip.ret (rt3 [56] (hc := by repeat' (first | exact rfl | exact plainL_map _ (fun _ => rfl) _ | (refine Side.mk ?_; simp only [ln]; first | done | omega) | constructor)))
end Go.Proofs.Tryz
namespace Go.Graft
open Go.Sym
set_option maxRecDepth 100000
def xA : Str := [97, 52, 57, 56, 102, 56, 102, 50, 48, 102, 48, 54, 97, 99, 100, 53, 56, 56, 49, 53, 49, 101, 49, 55, 102, 54, 52, 50, 50, 97, 54, 100, 52, 55, 100, 97, 52, 53, 97, 97]
def xB : Str := [54, 101, 102, 49, 57, 98, 52, 49, 50, 50, 53, 99, 53, 51, 54, 57, 102, 49, 99, 49, 48, 52, 100, 52, 53, 100, 56, 100, 56, 53, 101, 102, 97, 57, 98, 48, 53, 55, 98, 53]
def xC : Str := [48, 50, 48, 100, 55, 57, 51, 49, 97, 57, 98, 98, 48, 98, 53, 50, 98, 97, 48, 54, 100, 49, 56, 49, 48, 102, 51, 52, 51, 52, 49, 57, 54, 100, 55, 48, 54, 100, 54, 49]
def xWho : Str := [97, 32, 60, 97, 64, 98, 62, 32, 53, 32, 43, 48, 49, 48, 48]
def xBody : Str := [116, 114, 101, 101, 32] ++ xB ++ [10] ++ [97, 117, 116, 104, 111, 114, 32] ++ xWho ++ [10, 99, 111, 109, 109, 105, 116, 116, 101, 114, 32] ++ xWho ++ [10, 10] ++ [120, 10]
def s1 : List It := [⟨xA, 1, [97, 98]⟩]
def s2 : List It := [⟨xB, 2, []⟩, ⟨xA, 1, [97, 98]⟩]
def s3 : List It := [⟨xC, 3, xBody⟩, ⟨xB, 2, []⟩, ⟨xA, 1, [97, 98]⟩]
def s4 : List It := [⟨xC, 3, xBody⟩]
def s5 : List It := [⟨xC, 3, xBody⟩, ⟨xA, 1, [97, 98]⟩]
theorem mk_reach {l : List It} {met have' lack : List Str} {x : Str} (hd : met.Nodup) (h1 : ∀ y ∈ met, y = x ∨ (placed l x = true ∧ y ∈ nmAt l [] x)) (h2 : x ∈ met) (h3 : ∀ y ∈ met, placed l y = true → ∀ z ∈ nmAt l [] y, z ∈ met)
  (ha : asc have') (hb : asc lack) (m1 : ∀ y, y ∈ have' ↔ y ∈ met.filter (placed l)) (m2 : ∀ y, y ∈ lack ↔ y ∈ met.filter fun y => !placed l y) : IsReach l [] [x] have' lack :=
 Onway.reach (met := met) ⟨hd, fun y hy => (h1 y hy).elim (fun e => e ▸ .start (by simp)) fun k => .step (.start (by simp)) k.1 k.2, by simp, fun y hy => .inl (by rw [List.mem_singleton] at hy; exact hy ▸ h2), fun y hy hp z hz => .inl (h3 y hy hp z hz)⟩ ha hb m1 m2
theorem asc_pair {x y : Str} (h : bl x y = true) : asc [x, y] := by
 rw [asc, List.pairwise_cons]
 exact ⟨by simpa using h, List.pairwise_singleton ..⟩
end Go.Graft
namespace Go.Graft
open Go.Sym
set_option maxRecDepth 100000
def y1 : Str := [98, 97, 56, 56, 102, 53, 98, 55, 57, 54, 100, 54, 48, 97, 56, 55, 102, 98, 48, 50, 99, 102, 50, 97, 100, 102, 57, 56, 101, 48, 97, 56, 55, 53, 100, 97, 56, 100, 49, 98]
def y2 : Str := [48, 49, 48, 54, 53, 100, 98, 51, 56, 98, 48, 53, 50, 97, 100, 101, 57, 97, 100, 99, 55, 98, 51, 50, 101, 52, 53, 102, 54, 55, 49, 54, 97, 56, 97, 54, 55, 99, 102, 102]
def y3 : Str := [57, 53, 101, 48, 98, 101, 56, 48, 101, 53, 50, 48, 50, 99, 51, 97, 53, 51, 98, 101, 53, 50, 50, 98, 56, 50, 98, 101, 50, 97, 102, 100, 53, 102, 51, 53, 51, 56, 55, 98]
def whoT (d : UInt8) : Str := [97, 32, 60, 97, 64, 98, 62, 32, d, 32, 43, 48, 48, 48, 48]
def parT (s : Str) : List Str → Str
 | [] => s
 | p :: r => parT (s ++ [112, 97, 114, 101, 110, 116, 32] ++ p ++ [10]) r
theorem parT_snoc : ∀ (s : Str) (l : List Str) (p : Str), parT s (l ++ [p]) = parT s l ++ [112, 97, 114, 101, 110, 116, 32] ++ p ++ [10]
 | _, [], _ => rfl
 | s, q :: r, p => by rw [List.cons_append, parT, parT, parT_snoc]
theorem parT_next (s : Str) (l : List Str) {i : Nat} (h : i < l.length) : parT s (l.take (i + 1)) = parT s (l.take i) ++ [112, 97, 114, 101, 110, 116, 32] ++ l[i]! ++ [10] := by
 rw [take_snoc l i h, parT_snoc]
theorem parT_le : ∀ (s : Str) (l : List Str) (B : Nat), (∀ p ∈ l, p.length ≤ B) → (parT s l).length ≤ s.length + l.length * (B + 8)
 | s, [], B, _ => by simp [parT]
 | s, q :: r, B, h => by
  have h1 := parT_le (s ++ [112, 97, 114, 101, 110, 116, 32] ++ q ++ [10]) r B fun p hp => h p (List.mem_cons_of_mem _ hp)
  have h2 := h q List.mem_cons_self
  simp only [List.length_append, List.length_cons, List.length_nil] at h1 ⊢
  rw [parT, Nat.add_mul]
  omega
def bodyT (t : Str) (ps : List Str) (w : Str) : Str := parT ([116, 114, 101, 101, 32] ++ t ++ [10]) ps ++ [97, 117, 116, 104, 111, 114, 32] ++ w ++ [10, 99, 111, 109, 109, 105, 116, 116, 101, 114, 32] ++ w ++ [10, 10] ++ []
abbrev perT (t : Int) : Per := ⟨[97], [97, 64, 98], t, 0⟩
abbrev comT (ps : List Str) (t : Int) : Com := ⟨xB, ps, perT t, perT t, []⟩
def g1 : Str := bodyT xB [] (whoT 49)
def g2 : Str := bodyT xB [y1] (whoT 50)
def g3 : Str := bodyT xB [y2] (whoT 51)
def u0 : List It := [⟨xB, 2, []⟩]
def u1 : List It := [⟨xB, 2, []⟩, ⟨y1, 3, g1⟩]
def u2 : List It := [⟨y2, 3, g2⟩, ⟨xB, 2, []⟩, ⟨y1, 3, g1⟩]
def u3 : List It := [⟨y2, 3, g2⟩, ⟨xB, 2, []⟩, ⟨y3, 3, g3⟩, ⟨y1, 3, g1⟩]
theorem ls0 : objId 2 [] = xB ∧ putE [] 2 [] = 0 ∧ putL [] 2 [] = u0 ∧ putE u1 2 [] = 0 ∧ putL u1 2 [] = u1 ∧ putE u2 2 [] = 0 ∧ putL u2 2 [] = u2 := by decide +kernel
theorem ls1 : putE u0 3 g1 = 0 ∧ putL u0 3 g1 = u1 ∧ putI u0 3 g1 = y1 := by decide +kernel
theorem ls2 : putE u1 3 g2 = 0 ∧ putL u1 3 g2 = u2 ∧ putI u1 3 g2 = y2 := by decide +kernel
theorem ls3 : putE u2 3 g3 = 0 ∧ putL u2 3 g3 = u3 ∧ putI u2 3 g3 = y3 := by decide +kernel
theorem ls4 : comE (comT [] 1) = 0 ∧ comE (comT [y1] 2) = 0 ∧ comE (comT [y2] 3) = 0 := by decide +kernel
theorem ls5 : rdE u3 y3 = 0 ∧ rdE u3 y2 = 0 ∧ rdE u3 y1 = 0 ∧ rdP u3 [] y3 = [y2] ∧ rdP u3 [] y2 = [y1] ∧ rdP u3 [] y1 = [] := by decide +kernel
theorem ls6 : (sortS ([y3] ++ [y2]) = [y2, y3]) ∧ sortS [y2, y3, y1] = [y2, y3, y1] ∧ sortS [y2] = [y2] ∧ sortS [y2, y3] = [y2, y3] := by decide +kernel
theorem ls7 : depR u3 [] 2 [y3] [] = ([y2, y3], [y2], 0) := by decide +kernel
theorem ls8 : depR u3 [] 3 [y3] [] = ([y2, y3, y1], [], 0) := by decide +kernel
theorem ls9 : placed u3 y3 = true ∧ placed u3 y2 = true ∧ placed u3 xB = true ∧ nmAt u3 [y2] y3 = [xB, y2] ∧ nmAt u3 [y2] y2 = [xB] ∧ nmAt u3 [y2] xB = [] := by decide +kernel
theorem lsO : bl y2 xB = true ∧ bl xB y3 = true ∧ bl y2 y3 = true ∧ y2 ≠ xB ∧ xB ≠ y3 ∧ y2 ≠ y3 := by decide +kernel
theorem rchS : IsReach u3 [y2] [y3] [y2, xB, y3] [] := by
 obtain ⟨p3, p2, pB, n3, n2, nB⟩ := ls9
 obtain ⟨o1, o2, o3, d1, d2, d3⟩ := lsO
 generalize u3 = u at *
 generalize y2 = b at *
 generalize y3 = c at *
 generalize xB = x at *
 refine Onway.reach (met := [b, x, c]) ⟨by simp [d1, d2, d3], fun y hy => ?_, by simp, fun y hy => .inl (by simp at hy; simp [hy]), fun y hy hp z hz => .inl ?_⟩ ?_ List.Pairwise.nil (fun y => ?_) (fun y => ?_)
 ·have hc : Rch u [b] [c] c := .start (by simp)
  simp only [List.mem_cons, List.not_mem_nil, or_false] at hy
  rcases hy with rfl | rfl | rfl
  ·exact .step hc p3 (by rw [n3]; simp)
  ·exact .step hc p3 (by rw [n3]; simp)
  ·exact hc
 ·simp only [List.mem_cons, List.not_mem_nil, or_false] at hy
  rcases hy with rfl | rfl | rfl
  ·rw [n2] at hz; simp at hz; simp [hz]
  ·rw [nB] at hz; simp at hz
  ·rw [n3] at hz; simp at hz; rcases hz with rfl | rfl <;> simp
 ·rw [asc, List.pairwise_cons, List.pairwise_cons]
  exact ⟨by simp [o1, o3], by simp [o2], List.pairwise_singleton ..⟩
 ·simp [List.filter_cons, p3, p2, pB]
 ·simp [List.filter_cons, p3, p2, pB]
end Go.Graft
namespace Go.Proofs.Tryz
open Go Go.Sym Go.Graft
set_option maxRecDepth 20000
theorem cNumT1 : Ctr prog 120 [iV 1] [] (sV [49]) [] [] := by
 refine Ctr.enter tblOk func120 rfl (by decide) rfl (nt := 23) rfl rfl rfl rfl ?_
 refine Trip.sr tblOk ?_
 refine Trip.sr tblOk ?_
 refine Trip.seq (Trip.block ?_)
 refine Trip.loop (fun (_ : Nat) => ⟨[(0, iV 1), (3, sV [])], []⟩) (fun (_ : Nat) => True) (fun (_ : Nat) => 0) (0) (by trivial) Weak.kp ?_
 intro i _
 refine Trip.seq (Trip.sr tblOk ?_)
 apply Trip.cond (.tmp rfl)
 ·intro h
  exact absurd h (by decide)
 intro h
 refine Trip.exit (Trip.sR tblOk (by repeat' (first | exact rfl | (apply Rule.sem; intro hγ; with_reducible apply F_bytesToString (dst := some 20) (l := [49]) tblOk hγ) | ((with_reducible refine Side.mk ?_); first | omega | (simp only [ln]; first | done | omega)) | constructor)) ?_)
 refine Trip.ret (rt1 [])
theorem cNumT2 : Ctr prog 120 [iV 2] [] (sV [50]) [] [] := by
 refine Ctr.enter tblOk func120 rfl (by decide) rfl (nt := 23) rfl rfl rfl rfl ?_
 refine Trip.sr tblOk ?_
 refine Trip.sr tblOk ?_
 refine Trip.seq (Trip.block ?_)
 refine Trip.loop (fun (_ : Nat) => ⟨[(0, iV 2), (3, sV [])], []⟩) (fun (_ : Nat) => True) (fun (_ : Nat) => 0) (0) (by trivial) Weak.kp ?_
 intro i _
 refine Trip.seq (Trip.sr tblOk ?_)
 apply Trip.cond (.tmp rfl)
 ·intro h
  exact absurd h (by decide)
 intro h
 refine Trip.exit (Trip.sR tblOk (by repeat' (first | exact rfl | (apply Rule.sem; intro hγ; with_reducible apply F_bytesToString (dst := some 20) (l := [50]) tblOk hγ) | ((with_reducible refine Side.mk ?_); first | omega | (simp only [ln]; first | done | omega)) | constructor)) ?_)
 refine Trip.ret (rt1 [])
theorem cNumT3 : Ctr prog 120 [iV 3] [] (sV [51]) [] [] := by
 refine Ctr.enter tblOk func120 rfl (by decide) rfl (nt := 23) rfl rfl rfl rfl ?_
 refine Trip.sr tblOk ?_
 refine Trip.sr tblOk ?_
 refine Trip.seq (Trip.block ?_)
 refine Trip.loop (fun (_ : Nat) => ⟨[(0, iV 3), (3, sV [])], []⟩) (fun (_ : Nat) => True) (fun (_ : Nat) => 0) (0) (by trivial) Weak.kp ?_
 intro i _
 refine Trip.seq (Trip.sr tblOk ?_)
 apply Trip.cond (.tmp rfl)
 ·intro h
  exact absurd h (by decide)
 intro h
 refine Trip.exit (Trip.sR tblOk (by repeat' (first | exact rfl | (apply Rule.sem; intro hγ; with_reducible apply F_bytesToString (dst := some 20) (l := [51]) tblOk hγ) | ((with_reducible refine Side.mk ?_); first | omega | (simp only [ln]; first | done | omega)) | constructor)) ?_)
 refine Trip.ret (rt1 [])
theorem cWhoT (t : Int) (d : UInt8) (c : Ctr prog 120 [iV t] [] (sV [d]) [] []) : Ctr prog 77 [.agg [sV [97], sV [97, 64, 98], iV t, iV 0]] [] (sV (whoT d)) [] [] := by
 refine Ctr.enter tblOk func77 rfl (by decide) rfl (nt := 48) rfl rfl rfl rfl ?_
 refine Trip.sr tblOk ?_
 refine Trip.dk ⟨[(1, .ref 1 0), (3, sV [43]), (4, iV 0)], [(1, .box [sV [97], sV [97, 64, 98], iV t, iV 0])]⟩ tblOk mixed (by repeat' (first | exact rfl | constructor)) Weak.kp ?_
 refine Trip.seq (Trip.sr tblOk ?_)
 apply Trip.cond (.tmp rfl)
 ·intro h
  exact absurd h (by decide)
 intro h
 refine Trip.skip (Trip.sR tblOk (by repeat' (first | exact rfl | (apply Rule.sem; intro hγ; with_reducible apply F_bytesToString (dst := some 31) (l := [48, 48, 48, 48]) tblOk hγ) | ((with_reducible refine Side.mk ?_); omega) | constructor)) ?_)
 refine Trip.sD tblOk mixed (by repeat' (first | exact rfl | (apply Rule.sem; intro hγ; with_reducible apply F_call0 (x := .func 120) (B := []) hγ (hspec := c)) | ((with_reducible refine Side.mk ?_); first | exact .inl rfl | (simp only [ln]; first | done | omega)) | constructor)) ?_
 refine Trip.ret (rt1 [])
theorem cBodyT (x : Str) (hX : x.length = 40) (np : Bool) (ps : List Str) (t : Int) (W : Str) (cW : Ctr prog 77 [.agg [sV [97], sV [97, 64, 98], iV t, iV 0]] [] (sV W) [] []) (hW : W.length ≤ 1000) (hp : ps.length ≤ 10) (hp2 : ∀ p ∈ ps, p.length ≤ 100) (hc : comE ⟨x, ps, perT t, perT t, []⟩ = 0) : Ctr prog 46 [.agg [sV x, .sl np 1 (ps.map fun x => sV x), sV [97], sV [97, 64, 98], iV t, iV 0, sV [97], sV [97, 64, 98], iV t, iV 0, sV []]] [] (.tup [sV (bodyT x ps W), iV 0]) [] [] := by
 have c1 := cComE16 np ⟨x, ps, perT t, perT t, []⟩ (by dsimp only; omega) (by dsimp only; omega) (fun p hp => Nat.le_trans (hp2 p hp) (by decide)) (by simp) (by simp) (by simp)
 rw [hc] at c1
 have hB : bodyT x ps W = parT ([116, 114, 101, 101, 32] ++ x ++ [10]) (ps.take ps.length) ++ [97, 117, 116, 104, 111, 114, 32] ++ W ++ [10, 99, 111, 109, 109, 105, 116, 116, 101, 114, 32] ++ W ++ [10, 10] ++ [] := by rw [List.take_length]; rfl
 rw [hB]
 clear hB hc
 have hl := fun i => parT_le ([116, 114, 101, 101, 32] ++ x ++ [10]) (ps.take i) 100 (fun p hp => hp2 p (List.mem_of_mem_take hp))
 have hn := fun i hi => parT_next ([116, 114, 101, 101, 32] ++ x ++ [10]) ps (i := i) hi
 have hz : parT ([116, 114, 101, 101, 32] ++ x ++ [10]) (ps.take 0) = [116, 114, 101, 101, 32] ++ x ++ [10] := rfl
 have hS : ([116, 114, 101, 101, 32] ++ x ++ [10] : Str).length = 46 := by rw [List.length_append, List.length_append, hX]; rfl
 rw [hS] at hl
 refine Ctr.enter tblOk func46 rfl (by decide) rfl (nt := 47) rfl rfl rfl rfl ?_
 refine Trip.sr tblOk ?_
 refine Trip.sR tblOk (by repeat' (first | exact rfl | (apply Rule.sem; intro hγ; with_reducible apply F_call0 (x := .func 72) (B := []) hγ (hspec := c1)) | ((with_reducible refine Side.mk ?_); exact .inl rfl) | constructor)) ?_
 refine Trip.seq (Trip.sr tblOk ?_)
 apply Trip.cond (.tmp rfl)
 ·intro h
  exact absurd h (by decide)
 intro h
 refine Trip.skip (Trip.sR tblOk (by repeat' (first | exact rfl | ((with_reducible refine Side.mk ?_); (simp only [ln]; first | done | omega)) | constructor)) ?_)
 refine Trip.seq (Trip.sr tblOk ?_)
 refine Trip.block ?_
 refine Trip.loop (fun (i : Nat) => ⟨[(1, .ref 1 0), (5, sV (parT ([116, 114, 101, 101, 32] ++ x ++ [10]) (ps.take i))), (6, iV i)], [(1, .box [sV x, .sl np 1 (ps.map fun x => sV x), sV [97], sV [97, 64, 98], iV t, iV 0, sV [97], sV [97, 64, 98], iV t, iV 0, sV []])]⟩) (fun (i : Nat) => i ≤ ps.length) (fun (i : Nat) => ps.length - i) (0) (by first | omega | (simp; done)) Weak.kp ?_
 intro i hi
 have hl := hl i
 have hn := hn i
 rw [List.length_take] at hl
 clear hz
 generalize hq : parT ([116, 114, 101, 101, 32] ++ x ++ [10]) (ps.take (i + 1)) = q2 at *
 refine Trip.seq (Trip.sr tblOk ?_)
 apply Trip.cond (.tmp rfl)
 ·intro h
  have h : i < ps.length := by simp at h; omega
  have hn := hn h
  have hpi := hp2 _ (bang_mem h)
  generalize parT ([116, 114, 101, 101, 32] ++ x ++ [10]) (ps.take i) = q1 at *
  refine Trip.skip (Trip.seq (Trip.block (Trip.R tblOk (by repeat' (first | exact rfl | exact idx_map _ _ _ (by show _ < _; first | omega | (simp only [List.length_map] at *; omega)) | ((with_reducible refine Side.mk ?_); (simp only [ln]; first | done | omega)) | constructor)) ?_)))
  refine Trip.R tblOk (by repeat' (first | exact rfl | ((with_reducible refine Side.mk ?_); omega) | constructor)) ?_
  exact ⟨i + 1, by first | omega | (dsimp only at *; omega), by first | omega | (dsimp only at *; omega), Weak.kp (ht := by repeat' (first | exact rfl | (rw [hq, hn]; rfl) | constructor))⟩
 intro h
 have h : i = ps.length := by simp at h; omega
 subst h
 clear hq hn
 generalize parT ([116, 114, 101, 101, 32] ++ x ++ [10]) (ps.take ps.length) = q1 at *
 refine Trip.exit (Trip.sD tblOk mixed (by repeat' (first | exact rfl | (apply Rule.sem; intro hγ; with_reducible apply F_call0 (dst := some 36) (x := .func 77) (B := []) hγ (hspec := cW)) | (apply Rule.sem; intro hγ; with_reducible apply F_call0 (dst := some 41) (x := .func 77) (B := []) hγ (hspec := cW)) | ((with_reducible refine Side.mk ?_); first | exact .inl rfl | (simp only [ln]; first | done | omega)) | constructor)) ?_)
 refine Trip.ret (rt2 [])
theorem cPut47 (v : Vw) (hnl : v.nl = true → v.l = []) (hs : v.l.length ≤ 1000) (np : Bool) (ps : List Str) (t : Int) (W : Str) (cW : Ctr prog 77 [.agg [sV [97], sV [97, 64, 98], iV t, iV 0]] [] (sV W) [] []) (hW : W.length ≤ 1000) (hp : ps.length ≤ 10) (hp2 : ∀ p ∈ ps, p.length ≤ 100) (hid : objId 2 [] = xB) (hc : comE ⟨xB, ps, perT t, perT t, []⟩ = 0)
  (l2 l3 : List It) (id : Str) (e2 : putE v.l 2 [] = 0) (h2 : putL v.l 2 [] = l2) (h2l : l2.length ≤ 1000) (e3 : putE l2 3 (bodyT xB ps W) = 0) (h3 : putL l2 3 (bodyT xB ps W) = l3) (h4 : putI l2 3 (bodyT xB ps W) = id) :
  Ctr prog 23 [v.pv, iV t, .sl np 1 (ps.map fun x => sV x)] [] (.tup [Vw.pv { v with nl := false, l := l3 }, sV id]) [] [] := by
 have c1 := cId2 2 []
 rw [hid] at c1
 have c2 := cBodyT xB rfl np ps t W cW hW hp hp2 hc
 have c3 := cPut17 v.nl v.l 2 [] hnl (by omega)
 rw [h2, e2] at c3
 have c4 := cPut17 false l2 3 (bodyT xB ps W) (by simp) (by omega)
 rw [h3, h4, e3] at c4
 have e0 : (!decide ((0 : Int) = 0)) = false := rfl
 rw [e0] at c3 c4
 clear e0 hid hc e2 h2 e3 h3 h4 hnl
 obtain ⟨nl, l, nr, rf, ng, lg, nc, cuts⟩ := v
 dsimp only at *
 generalize putI l 2 [] = i2 at *
 generalize bodyT xB ps W = B at *
 generalize xB = x at *
 refine Ctr.enter tblOk func23 rfl (by decide) rfl (nt := 51) rfl rfl rfl rfl ?_
 refine Trip.sr tblOk ?_
 refine Trip.sr tblOk ?_
 refine Trip.sr tblOk ?_
 refine Trip.sD tblOk mixed (by repeat' (first | exact rfl | (apply Rule.sem; intro hγ; with_reducible apply F_call0 (x := .func 44) (B := []) hγ (hspec := c1)) | (apply Rule.sem; intro hγ; with_reducible apply F_call0 (x := .func 46) (B := []) hγ (hspec := c2)) | ((with_reducible refine Side.mk ?_); exact .inl rfl) | constructor)) ?_
 refine Trip.sR tblOk (by repeat' (first | exact rfl | (apply Rule.sem; intro hγ; with_reducible apply F_call0 (x := .func 47) (B := []) hγ (hspec := c3)) | ((with_reducible refine Side.mk ?_); exact .inl rfl) | constructor)) ?_
 refine Trip.sR tblOk (by repeat' (first | exact rfl | (apply Rule.sem; intro hγ; with_reducible apply F_call0 (x := .func 47) (B := []) hγ (hspec := c4)) | ((with_reducible refine Side.mk ?_); exact .inl rfl) | constructor)) ?_
 refine Trip.sr tblOk ?_
 refine Trip.sr tblOk ?_
 refine Trip.ret (rt2 [])
end Go.Proofs.Tryz
