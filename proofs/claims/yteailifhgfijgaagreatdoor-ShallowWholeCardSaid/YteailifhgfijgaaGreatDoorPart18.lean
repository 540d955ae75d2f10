/- A part of the proof: GCom, GObj, GObjB, GLin, GLinB, GPth. -/
import Derived.Lib.Atoi
import Derived.Lib.IndexAny
import Derived.Test.YteailifhgfijgaaGreatDoorPart17
import Derived.Lib.ItoaNum
set_option linter.unusedVariables false
set_option linter.unusedSimpArgs false
namespace Go.Graft
open Go.Sym
def badD (c : UInt8) : Bool := decide ((c.toNat : Int) < 48) || decide (57 < (c.toNat : Int))
def valF (n : Nat) (c : UInt8) : Nat := 10 * n + (c.toNat - 48)
def valD (s : Str) : Nat := s.foldl valF 0
def numBad (s : Str) : Bool := decide ((s.length : Int) < 1) || decide (18 < (s.length : Int)) || (decide (1 < (s.length : Int)) && decide (((s.getD 0 0).toNat : Int) = 48))
def numOk (s : Str) : Bool := !numBad s && s.all fun c => !badD c
theorem numOk_bad {s : Str} (h : numBad s = true) : numOk s = false := by rw [numOk, h]; rfl
theorem numOk_false {s : Str} {i : Nat} (h : i < s.length) (hp : badD (s.getD i 0) = true) : numOk s = false := by
 rw [numOk, all_false (p := fun c => !badD c) h (by rw [hp]; rfl), Bool.and_false]
theorem numOk_true {s : Str} (hb : numBad s = false) (h : ∀ i, i < s.length → badD (s.getD i 0) = false) : numOk s = true := by
 rw [numOk, hb, all_true (p := fun c => !badD c) fun i hi => by rw [h i hi]; rfl]; rfl
theorem numOk_len {s : Str} (h : numOk s = true) : 1 ≤ s.length ∧ s.length ≤ 18 := by
 simp only [numOk, Bool.and_eq_true, Bool.not_eq_true', numBad, Bool.or_eq_false_iff, decide_eq_false_iff_not] at h
 omega
theorem numOk_all {s : Str} (h : numOk s = true) : ∀ c ∈ s, badD c = false := by
 simp only [numOk, Bool.and_eq_true] at h
 intro c hc
 have := (List.all_eq_true.1 h.2) c hc
 simpa using this
theorem dec_val : ∀ (s : Str) (a : Nat), (∀ c ∈ s, badD c = false) → Lib.decFrom a s = some (s.foldl valF a)
 | [], a, _ => rfl
 | b :: r, a, h => by
  have hb := h b (by simp)
  simp only [badD, Bool.or_eq_false_iff, decide_eq_false_iff_not] at hb
  have hd : Lib.digitVal b = some (b.toNat - 48) := by rw [Lib.digitVal, if_pos ⟨by omega, by omega⟩]
  simp only [Lib.decFrom, hd, List.foldl_cons]
  rw [dec_val r _ fun c hc => h c (by simp [hc])]
  rw [valF, Nat.mul_comm]
theorem atoi_val {s : Str} (h0 : s ≠ []) (h : ∀ c ∈ s, badD c = false) : Lib.atoi s = some ((valD s : Nat) : Int) := by
 cases s with
 | nil => exact absurd rfl h0
 | cons b r =>
  have hb := h b (by simp)
  simp only [badD, Bool.or_eq_false_iff, decide_eq_false_iff_not] at hb
  have e1 : (b == 45) = false := by
   have : b ≠ 45 := by rintro rfl; exact absurd hb.1 (by decide)
   simpa using this
  have e2 : (b == 43) = false := by
   have : b ≠ 43 := by rintro rfl; exact absurd hb.1 (by decide)
   simpa using this
  have e3 : Lib.decNat (b :: r) = some (valD (b :: r)) := by rw [Lib.decNat, dec_val _ _ h]; rfl
  simp only [Lib.atoi, e1, e2, e3]
  rfl
theorem valD_bound (s : Str) (h : ∀ c ∈ s, badD c = false) : ∀ a : Nat, s.foldl valF a < (a + 1) * 10 ^ s.length := by
 induction s with
 | nil => intro a; simp
 | cons b r ih =>
  intro a
  have hb := h b (by simp)
  simp only [badD, Bool.or_eq_false_iff, decide_eq_false_iff_not] at hb
  have := ih (fun c hc => h c (by simp [hc])) (valF a b)
  simp only [List.foldl_cons, List.length_cons]
  have h1 : valF a b + 1 ≤ (a + 1) * 10 := by rw [valF]; omega
  calc _ < (valF a b + 1) * 10 ^ r.length := this
   _ ≤ ((a + 1) * 10) * 10 ^ r.length := Nat.mul_le_mul_right _ h1
   _ = (a + 1) * 10 ^ (r.length + 1) := by rw [Nat.pow_succ, Nat.mul_assoc, Nat.mul_comm 10]
theorem valD_lt {s : Str} (h : ∀ c ∈ s, badD c = false) (k : Nat) (hk : s.length ≤ k) : valD s < 10 ^ k := by
 have := valD_bound s h 0
 have h2 : 10 ^ s.length ≤ 10 ^ k := Nat.pow_le_pow_right (by omega) hk
 rw [valD]; omega
theorem valD_take (s : Str) (i : Nat) (h : i < s.length) : valD (s.take (i + 1)) = valF (valD (s.take i)) (s.getD i 0) := by
 rw [take_snoc s i h, valD, List.foldl_append, getD_bang]; rfl
def zonBad (s : Str) : Bool := decide (¬ (s.length : Int) = 5) || (decide (¬ ((s.getD 0 0).toNat : Int) = 43) && decide (¬ ((s.getD 0 0).toNat : Int) = 45)) || decide (s = [45, 48, 48, 48, 48])
def zonM (s : Str) : Int := valD (s.drop 3)
def zonH (s : Str) : Int := valD ((s.drop 1).take 2)
def zonOk (s : Str) : Bool := !zonBad s && (s.drop 1).all (fun c => !badD c) && decide (zonM s < 60)
def zonV (s : Str) : Int := if zonOk s = false then 0 else if ((s.getD 0 0).toNat : Int) = 45 then -60 * zonH s - zonM s else 60 * zonH s + zonM s
def zeroPer : Per := ⟨[], [], 0, 0⟩
@[reducible] def Per.pv (p : Per) : PV := perPV p.name p.mail p.time p.zone
def angled (s : Str) : Bool := s.any fun c => decide (c = 60) || decide (c = 62)
def whoOf (s : Str) : Int × Per :=
 if ((Lib.cut s [32, 60]).2.2 && (Lib.cut (Lib.cut s [32, 60]).2.1 [62, 32]).2.2 && (Lib.cut (Lib.cut (Lib.cut s [32, 60]).2.1 [62, 32]).2.1 [32]).2.2 && numOk (Lib.cut (Lib.cut (Lib.cut s [32, 60]).2.1 [62, 32]).2.1 [32]).1 && zonOk (Lib.cut (Lib.cut (Lib.cut s [32, 60]).2.1 [62, 32]).2.1 [32]).2.1 && !angled ((Lib.cut s [32, 60]).1 ++ (Lib.cut (Lib.cut s [32, 60]).2.1 [62, 32]).1)) = false then (2, zeroPer)
 else if perOk (Lib.cut s [32, 60]).1 (Lib.cut (Lib.cut s [32, 60]).2.1 [62, 32]).1 (valD (Lib.cut (Lib.cut (Lib.cut s [32, 60]).2.1 [62, 32]).2.1 [32]).1) (zonV (Lib.cut (Lib.cut (Lib.cut s [32, 60]).2.1 [62, 32]).2.1 [32]).2.1) = false then (1, zeroPer)
 else (0, ⟨(Lib.cut s [32, 60]).1, (Lib.cut (Lib.cut s [32, 60]).2.1 [62, 32]).1, valD (Lib.cut (Lib.cut (Lib.cut s [32, 60]).2.1 [62, 32]).2.1 [32]).1, zonV (Lib.cut (Lib.cut (Lib.cut s [32, 60]).2.1 [62, 32]).2.1 [32]).2.1⟩)
def findS (s t : Str) (a : Nat) : Int := if Lib.index (s.drop a) t < 0 then -1 else a + Lib.index (s.drop a) t
theorem findS_none {s t : Str} {a : Nat} (ht : t ≠ []) (h : ∀ j, a ≤ j → j + t.length ≤ s.length → (s.drop j).take t.length ≠ t) : findS s t a = -1 := by
 rw [findS, Lib.index_none]; rfl
 intro j hj
 cases ho : Lib.occAt (s.drop a) t j with
 | false => rfl
 | true =>
  exfalso
  have hr := (Lib.occAt_room ho).resolve_right ht
  rw [Lib.occAt_iff_take _ _ _ hr, List.drop_drop] at ho
  rw [List.length_drop] at hr hj
  by_cases hja : a ≤ s.length
  ·exact h (a + j) (by omega) (by omega) (by simpa using ho)
  ·have : t.length = 0 := by omega
   exact ht (List.length_eq_zero_iff.1 this)
theorem findS_some {s t : Str} {a i : Nat} (ha : a ≤ i) (hi : i + t.length ≤ s.length) (h : ∀ j, a ≤ j → j < i → (s.drop j).take t.length ≠ t) (hc : (s.drop i).take t.length = t) : findS s t a = (i : Int) := by
 have := Lib.index_first (s := s.drop a) (sub := t) (i := i - a) (by rw [List.length_drop]; omega) (by
  rw [Lib.occAt_iff_take _ _ _ (by rw [List.length_drop]; omega), List.drop_drop, show a + (i - a) = i by omega, hc]; simp) (fun j hj => by
  rw [Lib.occAt_iff_take _ _ _ (by rw [List.length_drop]; omega), List.drop_drop]
  simpa using h (a + j) (by omega) (by omega))
 rw [findS, this, if_neg (by omega)]; omega
theorem findS_cases (s t : Str) (a : Nat) : (findS s t a = -1 ∧ Lib.index (s.drop a) t = -1) ∨ ∃ i : Nat, findS s t a = (i : Int) ∧ a ≤ i ∧ Lib.index (s.drop a) t = ((i - a : Nat) : Int) ∧ (a ≤ s.length → i + t.length ≤ s.length) := by
 have hge := Lib.index_ge (s.drop a) t
 by_cases h : Lib.index (s.drop a) t < 0
 ·exact .inl ⟨by rw [findS, if_pos h], by omega⟩
 ·right
  have hr := Lib.index_room (s.drop a) t (by omega)
  refine ⟨a + (Lib.index (s.drop a) t).toNat, by rw [findS, if_neg h]; omega, by omega, by omega, fun ha => ?_⟩
  rw [List.length_drop] at hr
  omega
end Go.Graft
namespace Go.Graft
open Go.Sym
def wBlob : Str := [98, 108, 111, 98]
def wTree : Str := [116, 114, 101, 101]
def wCommit : Str := [99, 111, 109, 109, 105, 116]
def wTag : Str := [116, 97, 103]
def wordK (k : Int) : Str := if k = 1 then wBlob else if k = 2 then wTree else if k = 3 then wCommit else if k = 4 then wTag else []
def kindW (w : Str) : Int := if w = wBlob then 1 else if w = wTree then 2 else if w = wCommit then 3 else if w = wTag then 4 else 0
@[reducible] def objPV (k : Int) (b : Str) : PV := .agg [iV k, sV b]
def objErr (k : Int) (b : Str) : Int := if wordK k = [] then 140 else if (1048576 : Int) < b.length then 4 else 0
def objText (k : Int) (b : Str) : Str := wordK k ++ [32] ++ Lib.itoa b.length ++ [0] ++ b
def objBytes (k : Int) (b : Str) : Str := if objErr k b = 0 then objText k b else []
def objId (k : Int) (b : Str) : Str := if objErr k b = 0 then idOf (objText k b) else []
theorem wordK_len (k : Int) : (wordK k).length ≤ 6 := by
 unfold wordK
 repeat' split
 all_goals decide
end Go.Graft
namespace Go.Graft
open Go.Sym
theorem kindW_wordK (k : Nat) (h1 : 1 ≤ k) (h2 : k ≤ 4) : kindW (wordK (k : Int)) = (k : Int) ∧ wordK (k : Int) ≠ [] := by
 obtain rfl | rfl | rfl | rfl : k = 1 ∨ k = 2 ∨ k = 3 ∨ k = 4 := by omega
 all_goals decide
theorem kindW_none (w : Str) (h : ∀ j : Nat, 1 ≤ j → j < 5 → wordK (j : Int) ≠ w) : kindW w = 0 := by
 have h1 := h 1 (by omega) (by omega)
 have h2 := h 2 (by omega) (by omega)
 have h3 := h 3 (by omega) (by omega)
 have h4 := h 4 (by omega) (by omega)
 rw [kindW, if_neg (fun e => h1 e.symm), if_neg (fun e => h2 e.symm), if_neg (fun e => h3 e.symm), if_neg (fun e => h4 e.symm)]
theorem wordK_none (k : Int) (h : ∀ j : Nat, j < 4 → (j : Int) + 1 ≠ k) : wordK k = [] := by
 have h1 := h 0 (by omega)
 have h2 := h 1 (by omega)
 have h3 := h 2 (by omega)
 have h4 := h 3 (by omega)
 rw [wordK, if_neg (by omega), if_neg (by omega), if_neg (by omega), if_neg (by omega)]
def kindsPV : List PV := [iV 1, sV wBlob, iV 2, sV wTree, iV 3, sV wCommit, iV 4, sV wTag]
theorem kinds_part (i : Nat) (h : i < 4) : PartR kindsPV ((i : Int).toNat * 2) (some 2) (.agg [iV ((i : Int) + 1), sV (wordK ((i : Int) + 1))]) := by
 obtain rfl | rfl | rfl | rfl : i = 0 ∨ i = 1 ∨ i = 2 ∨ i = 3 := by omega
 all_goals (refine .agg (by repeat constructor) (by repeat constructor))
theorem dec_step (k : Nat) (s : Str) : (if k / 10 = 0 then UInt8.ofNat (48 + k % 10) :: s else Lib.decDigits (k / 10) ++ UInt8.ofNat (48 + k % 10) :: s) = Lib.decDigits k ++ s := by
 conv => rhs; rw [Lib.decDigits]
 by_cases h : k < 10
 ·rw [if_pos (by omega), dif_pos h, Nat.mod_eq_of_lt h]; rfl
 ·rw [if_neg (by omega), dif_neg h]; simp
theorem dig_val (k : Nat) : IntKind.wrap .u8 (48 + max ((k % 10 : Nat) : Int) (IntKind.wrap .i64 (0 - ((k % 10 : Nat) : Int)))) = ((UInt8.ofNat (48 + k % 10)).toNat : Int) := by
 have key : ∀ d : Fin 10, IntKind.wrap .u8 (48 + max ((d.val : Nat) : Int) (IntKind.wrap .i64 (0 - ((d.val : Nat) : Int)))) = ((UInt8.ofNat (48 + d.val)).toNat : Int) := by decide
 exact key ⟨k % 10, Nat.mod_lt _ (by omega)⟩
theorem dig_max (k : Nat) : max ((k % 10 : Nat) : Int) (IntKind.wrap .i64 (0 - ((k % 10 : Nat) : Int))) = ((k % 10 : Nat) : Int) := by
 have key : ∀ d : Fin 10, max ((d.val : Nat) : Int) (IntKind.wrap .i64 (0 - ((d.val : Nat) : Int))) = (d.val : Int) := by decide
 exact key ⟨k % 10, Nat.mod_lt _ (by omega)⟩
theorem itoa_nat (n : Nat) : Lib.itoa (n : Int) = Lib.decDigits n := by
 rw [Lib.itoa, if_neg (by omega)]; rfl
end Go.Graft
namespace Go.Graft
open Go.Sym
def lineOk (s w : Str) : Bool := (Lib.cut s [10]).2.2 && Lib.hasPrefix (Lib.cut s [10]).1 w
def lineV (s w : Str) : Str := if lineOk s w then Lib.trimPrefix (Lib.cut s [10]).1 w else []
def lineR (s w : Str) : Str := if lineOk s w then (Lib.cut s [10]).2.1 else s
def failE (e x : Int) : Int := if e = 0 ∨ x = 2 then x else e
def kTree : Str := [116, 114, 101, 101, 32]
def kPar : Str := [112, 97, 114, 101, 110, 116, 32]
def kAut : Str := [97, 117, 116, 104, 111, 114, 32]
def kCom : Str := [99, 111, 109, 109, 105, 116, 116, 101, 114, 32]
def kObj : Str := [111, 98, 106, 101, 99, 116, 32]
def kTyp : Str := [116, 121, 112, 101, 32]
def kTag : Str := [116, 97, 103, 32]
def kTgr : Str := [116, 97, 103, 103, 101, 114, 32]
theorem cut_nl (s : Str) : ((Lib.cut s [10]).2.2 = true ∧ ∃ k : Nat, Lib.index s [10] = k ∧ k + 1 ≤ s.length ∧ (Lib.cut s [10]).1 = s.take k ∧ (Lib.cut s [10]).2.1 = s.drop (k + 1)) ∨ ((Lib.cut s [10]).2.2 = false ∧ Lib.index s [10] = -1) := by
 have hge := Lib.index_ge s [10]
 by_cases h : 0 ≤ Lib.index s [10]
 ·have hr := Lib.index_room s [10] h
  simp only [List.length_singleton] at hr
  refine .inl ⟨by rw [Lib.cut, if_pos h], (Lib.index s [10]).toNat, by omega, by omega, by rw [Lib.cut, if_pos h], by rw [Lib.cut, if_pos h]; rfl⟩
 ·exact .inr ⟨by rw [Lib.cut, if_neg h], by omega⟩
theorem lineR_short (s w : Str) (h : lineOk s w = true) : (lineR s w).length < s.length := by
 rw [lineR, if_pos h]
 rcases cut_nl s with ⟨_, k, _, h2, _, h4⟩ | ⟨h1, _⟩
 ·rw [h4, List.length_drop]; omega
 ·rw [lineOk, h1] at h; simp at h
theorem lineR_le (s w : Str) : (lineR s w).length ≤ s.length := by
 by_cases h : lineOk s w = true
 ·exact Nat.le_of_lt (lineR_short s w h)
 ·rw [lineR, if_neg h]; exact Nat.le_refl _
theorem lineV_le (s w : Str) : (lineV s w).length ≤ s.length := by
 by_cases h : lineOk s w = true
 ·rw [lineV, if_pos h]
  rcases cut_nl s with ⟨_, k, _, h2, h3, _⟩ | ⟨h1, _⟩
  ·rw [h3, Lib.trimPrefix]
   split
   ·simp only [List.length_drop, List.length_take]; omega
   ·simp only [List.length_take]; omega
  ·rw [lineOk, h1] at h; simp at h
 ·rw [lineV, if_neg h]; simp
structure Com where
 tree : Str
 pars : List Str
 aut : Per
 com : Per
 text : Str
def zeroCom : Com := ⟨[], [], zeroPer, zeroPer, []⟩
@[reducible] def Com.pv (nl : Bool) (c : Com) : PV := .agg [sV c.tree, .sl nl 1 (c.pars.map sV), sV c.aut.name, sV c.aut.mail, iV c.aut.time, iV c.aut.zone, sV c.com.name, sV c.com.mail, iV c.com.time, iV c.com.zone, sV c.text]
structure Tg where
 obj : Str
 kind : Int
 name : Str
 by' : Per
 text : Str
def zeroTg : Tg := ⟨[], 0, [], zeroPer, []⟩
@[reducible] def Tg.pv (t : Tg) : PV := .agg [sV t.obj, iV t.kind, sV t.name, sV t.by'.name, sV t.by'.mail, iV t.by'.time, iV t.by'.zone, sV t.text]
def Per.ok (p : Per) : Bool := perOk p.name p.mail p.time p.zone
def comBad (c : Com) : Bool := !isId c.tree || c.pars.any (fun p => !isId p) || !c.aut.ok || !c.com.ok || hasZ c.text
def dupE (l : List Str) (i : Nat) : Int := if hasS (l.take i) l[i]! = true then 6 else 0
def comE (c : Com) : Int := if comBad c then 1 else if (4096 : Int) < c.text.length ∨ (8 : Int) < c.pars.length then 4 else firstE (dupE c.pars) c.pars.length
def tagBad (s : Str) : Bool := s.any fun c => decide ((c.toNat : Int) ≤ 32)
def tagged (s : Str) : Bool := !tagBad s && decide ((1 : Int) ≤ s.length) && decide ((s.length : Int) ≤ 64)
def tgBad (t : Tg) : Bool := !isId t.obj || decide (wordK t.kind = []) || !tagged t.name || !t.by'.ok || hasZ t.text
def tgE (t : Tg) : Int := if tgBad t then 1 else if (4096 : Int) < t.text.length then 4 else 0
def idE (v : Str) (e : Int) : Int := if isId v then e else failE e 2
def lnE (s w : Str) (e : Int) : Int := if lineOk s w then e else failE e 2
def rdId (s : Str) (e : Int) (w : Str) : Int := idE (lineV s w) (lnE s w e)
def rdWho (s : Str) (e : Int) (w : Str) : Int := if (whoOf (lineV s w)).1 = 0 then lnE s w e else failE (lnE s w e) (whoOf (lineV s w)).1
def parsP : Nat → Str → Int → List Str → Str × Int × List Str
 | 0, s, e, l => (s, e, l)
 | f + 1, s, e, l => if e = 0 ∧ Lib.hasPrefix s kPar = true then parsP f (lineR s kPar) (rdId s e kPar) (l ++ [lineV s kPar]) else (s, e, l)
def parsOf (s : Str) (e : Int) : Str × Int × List Str := parsP (s.length + 1) s e []
def comP (s : Str) : Int × Com :=
 let s1 := lineR s kTree
 let e1 := rdId s 0 kTree
 let q := parsOf s1 e1
 let s2 := q.1
 let e2 := q.2.1
 let x := lineV s2 kAut
 let s3 := lineR s2 kAut
 let e3 := rdWho s2 e2 kAut
 let y := lineV s3 kCom
 let s4 := lineR s3 kCom
 let e4 := rdWho s3 e3 kCom
 let e5 := if lineV s4 [] = [] then lnE s4 [] e4 else failE (lnE s4 [] e4) 2
 let c : Com := ⟨lineV s kTree, q.2.2, (whoOf x).2, (whoOf y).2, lineR s4 []⟩
 let e6 := if e5 = 0 then comE c else e5
 if e6 = 0 then (0, c) else (e6, zeroCom)
def tgP (s : Str) : Int × Tg :=
 let s1 := lineR s kObj
 let e1 := rdId s 0 kObj
 let w := lineV s1 kTyp
 let s2 := lineR s1 kTyp
 let e2 := if kindW w = 0 then failE (lnE s1 kTyp e1) 2 else lnE s1 kTyp e1
 let s3 := lineR s2 kTag
 let e3 := lnE s2 kTag e2
 let x := lineV s3 kTgr
 let s4 := lineR s3 kTgr
 let e4 := rdWho s3 e3 kTgr
 let e5 := if lineV s4 [] = [] then lnE s4 [] e4 else failE (lnE s4 [] e4) 2
 let t : Tg := ⟨lineV s kObj, kindW w, lineV s2 kTag, (whoOf x).2, lineR s4 []⟩
 let e6 := if e5 = 0 then tgE t else e5
 if e6 = 0 then (0, t) else (e6, zeroTg)
def whoM (b : Bool) (x : Str) : Int := if b = false ∨ (whoOf x).1 = 2 then 0 else if (whoOf x).1 ≠ 0 then 1 else 2
def parsR : Nat → Str → List Str → Option (Str × List Str)
 | 0, s, l => some (s, l)
 | f + 1, s, l => if lineOk s kPar = true then (if isId (lineV s kPar) then parsR f (lineR s kPar) (l ++ [lineV s kPar]) else none) else some (s, l)
def comR (s : Str) : Int × Com :=
 if (lineOk s kTree && isId (lineV s kTree)) = false then (2, zeroCom) else
 match parsR ((lineR s kTree).length + 1) (lineR s kTree) [] with
 | none => (2, zeroCom)
 | some (s2, l) =>
  let x := lineV s2 kAut
  let s3 := lineR s2 kAut
  let y := lineV s3 kCom
  let s4 := lineR s3 kCom
  if (decide (whoM (lineOk s2 kAut) x = 0) || decide (whoM (lineOk s3 kCom) y = 0) || decide (s4 = []) || decide (¬ ((s4.getD 0 0).toNat : Int) = 10)) = true then (2, zeroCom)
  else if (decide (whoM (lineOk s2 kAut) x = 1) || decide (whoM (lineOk s3 kCom) y = 1)) = true then (1, zeroCom)
  else
   let c : Com := ⟨lineV s kTree, l, (whoOf x).2, (whoOf y).2, s4.drop 1⟩
   if comE c = 0 then (0, c) else (comE c, zeroCom)
def tgR (s : Str) : Int × Tg :=
 let s1 := lineR s kObj
 let s2 := lineR s1 kTyp
 let s3 := lineR s2 kTag
 let s4 := lineR s3 kTgr
 let x := lineV s3 kTgr
 if (!lineOk s kObj || !lineOk s1 kTyp || !lineOk s2 kTag || decide (whoM (lineOk s3 kTgr) x = 0) || !isId (lineV s kObj) || decide (kindW (lineV s1 kTyp) = 0) || decide (s4 = []) || decide (¬ ((s4.getD 0 0).toNat : Int) = 10)) = true then (2, zeroTg)
 else
  let t : Tg := ⟨lineV s kObj, kindW (lineV s1 kTyp), lineV s2 kTag, (whoOf x).2, s4.drop 1⟩
  if tgE t = 0 then (0, t) else (tgE t, zeroTg)
end Go.Graft
namespace Go.Graft
open Go.Sym
theorem failE_two (e : Int) : failE e 2 = 2 := by rw [failE, if_pos (.inr rfl)]
theorem isId_nil : isId [] = false := by decide
theorem whoOf_nil : (whoOf []).1 = 2 := by decide
theorem whoOf_cases (x : Str) : (whoOf x).1 = 2 ∧ (whoOf x).2 = zeroPer ∨ (whoOf x).1 = 1 ∧ (whoOf x).2 = zeroPer ∨ (whoOf x).1 = 0 := by
 rw [whoOf]
 split
 ·exact .inl ⟨rfl, rfl⟩
 split
 ·exact .inr (.inl ⟨rfl, rfl⟩)
 ·exact .inr (.inr rfl)
theorem lineV_no {s w : Str} (h : lineOk s w = false) : lineV s w = [] := by rw [lineV, h]; rfl
theorem rdId_zero (s w : Str) : rdId s 0 w = if (lineOk s w && isId (lineV s w)) = true then 0 else 2 := by
 rw [rdId, idE, lnE]
 cases h : lineOk s w with
 | false => rw [lineV_no h, isId_nil]; simp [failE_two]
 | true => cases h2 : isId (lineV s w) <;> simp [failE_two]
theorem rdWho_two (s w : Str) : rdWho s 2 w = 2 := by
 rw [rdWho, lnE]
 rcases whoOf_cases (lineV s w) with ⟨h, _⟩ | ⟨h, _⟩ | h <;> rw [h] <;> split <;> simp [failE, failE_two]
theorem rdWho_zero (s w : Str) : rdWho s 0 w = 2 - whoM (lineOk s w) (lineV s w) := by
 rw [rdWho, lnE, whoM]
 cases h : lineOk s w with
 | false => rw [lineV_no h, whoOf_nil]; simp [failE_two]
 | true => rcases whoOf_cases (lineV s w) with ⟨h, _⟩ | ⟨h, _⟩ | h <;> rw [h] <;> simp [failE, failE_two]
theorem rdWho_one (s w : Str) : rdWho s 1 w = if whoM (lineOk s w) (lineV s w) = 0 then 2 else 1 := by
 rw [rdWho, lnE, whoM]
 cases h : lineOk s w with
 | false => rw [lineV_no h, whoOf_nil]; simp [failE_two]
 | true => rcases whoOf_cases (lineV s w) with ⟨h, _⟩ | ⟨h, _⟩ | h <;> rw [h] <;> simp [failE, failE_two]
theorem whoM_cases (b : Bool) (x : Str) : whoM b x = 0 ∨ (whoM b x = 1 ∧ (whoOf x).2 = zeroPer) ∨ whoM b x = 2 := by
 rw [whoM]
 rcases whoOf_cases x with ⟨h, h2⟩ | ⟨h, h2⟩ | h <;> rw [h] <;> cases b <;> simp_all
theorem pre_of_line {s w : Str} (h : lineOk s w = true) : Lib.hasPrefix s w = true := by
 rw [lineOk] at h
 rcases cut_nl s with ⟨_, k, _, _, h3, _⟩ | ⟨h1, _⟩
 ·rw [h3] at h
  simp only [Bool.and_eq_true, Lib.hasPrefix, List.isPrefixOf_iff_prefix] at h ⊢
  exact h.2.trans (List.take_prefix _ _)
 ·rw [h1] at h; simp at h
def nlBad (s : Str) : Bool := decide (s = []) || decide (¬ ((s.getD 0 0).toNat : Int) = 10)
theorem nl_line (s : Str) (e : Int) : (if lineV s [] = [] then lnE s [] e else failE (lnE s [] e) 2) = (if nlBad s = true then 2 else e) ∧ (nlBad s = false → lineR s [] = s.drop 1) := by
 have hp : ∀ t : Str, Lib.hasPrefix t [] = true := fun t => by simp [Lib.hasPrefix]
 have hok : lineOk s [] = (Lib.cut s [10]).2.2 := by rw [lineOk, hp, Bool.and_true]
 rcases cut_nl s with ⟨h1, k, hk, h2, h3, h4⟩ | ⟨h1, hk⟩
 ·have hv : lineV s [] = s.take k := by rw [lineV, hok, h1, if_pos rfl, Lib.trimPrefix, hp, if_pos rfl, h3]; rfl
  have hr : lineR s [] = s.drop (k + 1) := by rw [lineR, hok, h1, if_pos rfl, h4]
  have hl : lnE s [] e = e := by rw [lnE, hok, h1]; rfl
  rw [hv, hr, hl, failE_two]
  cases s with
  | nil => simp at h2
  | cons b r =>
   rw [Go.Graft.index_one_cons] at hk
   by_cases hb : b = 10
   ·rw [if_pos hb] at hk
    have : k = 0 := by omega
    subst this; subst hb
    have hn : nlBad (10 :: r) = false := by
     rw [nlBad, decide_eq_false (by simp), decide_eq_false (fun h => h (by show ((UInt8.toNat 10 : Nat) : Int) = 10; decide))]; rfl
    rw [hn]
    exact ⟨rfl, fun _ => rfl⟩
   ·have hk0 : k ≠ 0 := by
     rintro rfl
     rw [if_neg hb] at hk
     have := Lib.index_ge r [10]
     split at hk <;> omega
    have hn : nlBad (b :: r) = true := by
     have hb2 : ¬ ((b.toNat : Int) = 10) := fun h => hb (UInt8.toNat.inj (by
      have : b.toNat = 10 := by omega
      rw [this]; rfl))
     rw [nlBad, Bool.or_eq_true]
     exact .inr (decide_eq_true hb2)
    have ht : ¬ (b :: r).take k = [] := by
     cases k with
     | zero => exact absurd rfl hk0
     | succ k => simp
    rw [hn, if_neg ht]
    exact ⟨rfl, fun h => by simp at h⟩
 ·have hok2 : lineOk s [] = false := by rw [hok, h1]
  have hn : nlBad s = true := by
   cases s with
   | nil => rfl
   | cons b r =>
    rw [Go.Graft.index_one_cons] at hk
    have hb : ¬ b = 10 := by
     rintro rfl
     simp at hk
    have hb2 : ¬ ((b.toNat : Int) = 10) := fun h => hb (UInt8.toNat.inj (by
     have : b.toNat = 10 := by omega
     rw [this]; rfl))
    rw [nlBad, Bool.or_eq_true]
    exact .inr (decide_eq_true hb2)
  rw [lineV_no hok2, hn, if_pos rfl, lnE, hok2]
  exact ⟨by simp [failE_two], fun h => by simp at h⟩
theorem parsP_two : ∀ (f : Nat) (s : Str) (l : List Str), parsP f s 2 l = (s, 2, l)
 | 0, s, l => rfl
 | f + 1, s, l => by rw [parsP, if_neg (by simp)]
theorem pars_same : ∀ (f : Nat) (s : Str) (l : List Str), s.length < f →
  match parsR f s l with
  | none => (parsP f s 0 l).2.1 = 2
  | some (s2, l2) => parsP f s 0 l = (s2, 0, l2) ∨ ((parsP f s 0 l).2.1 = 2 ∧ Lib.hasPrefix s2 kPar = true)
 | 0, s, l, h => by omega
 | f + 1, s, l, h => by
  rw [parsR, parsP]
  by_cases hp : Lib.hasPrefix s kPar = true
  ·have hc : (0 : Int) = 0 ∧ Lib.hasPrefix s kPar = true := ⟨rfl, hp⟩
   rw [if_pos hc, rdId_zero]
   by_cases hl : lineOk s kPar = true
   ·rw [if_pos hl, hl, Bool.true_and]
    by_cases hi : isId (lineV s kPar) = true
    ·rw [if_pos hi, if_pos hi]
     exact pars_same f _ _ (by have := lineR_short s kPar hl; omega)
    ·rw [if_neg hi, if_neg hi]
     simp only [parsP_two]
   ·have hl : lineOk s kPar = false := by simpa using hl
    rw [hl]
    simp only [Bool.false_and, Bool.false_eq_true, if_false, parsP_two]
    exact .inr ⟨trivial, hp⟩
  ·have hl : ¬ lineOk s kPar = true := fun h => hp (pre_of_line h)
   have hc : ¬ ((0 : Int) = 0 ∧ Lib.hasPrefix s kPar = true) := fun h => hp h.2
   rw [if_neg hl, if_neg hc]
   exact .inl rfl
theorem pre_two {s : Str} (h : Lib.hasPrefix s kPar = true) : lineOk s kAut = false := by
 cases h2 : lineOk s kAut with
 | false => rfl
 | true =>
  exfalso
  have h3 := pre_of_line h2
  cases s with
  | nil => simp [Lib.hasPrefix, kPar] at h
  | cons b r =>
   simp only [Lib.hasPrefix, kPar, kAut, List.isPrefixOf, Bool.and_eq_true, beq_iff_eq] at h h3
   rw [← h.1] at h3
   exact absurd h3.1 (by decide)
theorem com_same (s : Str) : comP s = comR s := by
 rw [comP, comR]
 simp only [rdId_zero, (nl_line _ _).1]
 cases h1 : lineOk s kTree && isId (lineV s kTree) with
 | false =>
  simp only [Bool.false_eq_true, if_false, if_true]
  have hq : parsOf (lineR s kTree) 2 = (lineR s kTree, 2, []) := by rw [parsOf, parsP_two]
  rw [hq]
  simp only [rdWho_two]
  split <;> simp
 | true =>
  simp only [if_true, Bool.true_eq_false, if_false]
  have hp := pars_same ((lineR s kTree).length + 1) (lineR s kTree) [] (by omega)
  rw [parsOf]
  generalize parsP ((lineR s kTree).length + 1) (lineR s kTree) 0 [] = q at hp ⊢
  cases hr : parsR ((lineR s kTree).length + 1) (lineR s kTree) [] with
  | none =>
   rw [hr] at hp
   simp only at hp
   rw [hp]
   simp only [rdWho_two]
   split <;> simp
  | some p =>
   obtain ⟨s2, l⟩ := p
   rw [hr] at hp
   simp only at hp ⊢
   rcases hp with rfl | ⟨hp, hq⟩
   ·simp only [rdWho_zero]
    have hn : ∀ t : Str, (decide (t = []) || decide (¬ ((t.getD 0 0).toNat : Int) = 10)) = nlBad t := fun _ => rfl
    have hm := whoM_cases (lineOk s2 kAut) (lineV s2 kAut)
    generalize whoM (lineOk s2 kAut) (lineV s2 kAut) = m at hm ⊢
    generalize lineR s2 kAut = s3
    have hk := whoM_cases (lineOk s3 kCom) (lineV s3 kCom)
    have h0 := rdWho_zero s3 kCom
    have h1 := rdWho_one s3 kCom
    have h2 := rdWho_two s3 kCom
    generalize whoM (lineOk s3 kCom) (lineV s3 kCom) = n at hk h0 h1 ⊢
    have hnl := (nl_line (lineR s3 kCom) 0).2
    simp only [Bool.or_assoc, hn]
    cases hb : nlBad (lineR s3 kCom) with
    | true => simp
    | false =>
     rw [hnl hb]
     have e10 : (2 : Int) - 1 = 1 := rfl
     have e20 : (2 : Int) - 2 = 0 := rfl
     have e00 : (2 : Int) - 0 = 2 := rfl
     rcases hm with rfl | ⟨rfl, _⟩ | rfl <;> rcases hk with rfl | ⟨rfl, _⟩ | rfl <;> simp only [e10, e20, e00, h0, h1, h2] <;> simp <;> split <;> simp_all
   ·rw [hp]
    simp only [rdWho_two]
    have : whoM (lineOk s2 kAut) (lineV s2 kAut) = 0 := by rw [pre_two hq]; simp [whoM]
    rw [this]
    simp
theorem tg_same (s : Str) : tgP s = tgR s := by
 rw [tgP, tgR]
 simp only [rdId_zero, (nl_line _ _).1]
 have hn : ∀ t : Str, (decide (t = []) || decide (¬ ((t.getD 0 0).toNat : Int) = 10)) = nlBad t := fun _ => rfl
 simp only [Bool.or_assoc, hn]
 have hz : zeroPer.ok = false := by decide
 have key : ∀ e : Int, (e = 0 ∨ e = 2) → ∀ s w, lnE s w e = if lineOk s w = true then e else 2 := fun e he s w => by
  rw [lnE]; split <;> simp [failE_two]
 have k0 : kindW [] = 0 := by decide
 have hk1 : lineOk (lineR s kObj) kTyp = false → kindW (lineV (lineR s kObj) kTyp) = 0 := fun h => by rw [lineV_no h, k0]
 generalize lineR s kObj = s1 at hk1 ⊢
 generalize hkw : kindW (lineV s1 kTyp) = kw at hk1 ⊢
 generalize lineR s1 kTyp = s2
 generalize lineR s2 kTag = s3
 have h0 := rdWho_zero s3 kTgr
 have h2 := rdWho_two s3 kTgr
 have hm := whoM_cases (lineOk s3 kTgr) (lineV s3 kTgr)
 have hnl := (nl_line (lineR s3 kTgr) 0).2
 generalize whoM (lineOk s3 kTgr) (lineV s3 kTgr) = m at hm h0 ⊢
 generalize lineR s3 kTgr = s4 at hnl ⊢
 cases hb : nlBad s4 with
 | true => simp
 | false =>
  rw [hnl hb]
  by_cases hi : (lineOk s kObj && isId (lineV s kObj)) = true
  ·rw [if_pos hi]
   simp only [Bool.and_eq_true] at hi
   rw [hi.1, hi.2, key 0 (.inl rfl)]
   by_cases hw : kw = 0
   ·subst hw
    simp only [if_true, failE_two, key 2 (.inr rfl), ite_self, h2]
    simp
   ·have hl1 : lineOk s1 kTyp = true := by
     cases h : lineOk s1 kTyp with
     | true => rfl
     | false => exact absurd (hk1 h) hw
    rw [if_neg hw, hl1, if_pos rfl, key 0 (.inl rfl)]
    cases hl2 : lineOk s2 kTag with
    | false => simp [h2]
    | true =>
     simp only [if_true, h0]
     rcases hm with rfl | ⟨rfl, hp⟩ | rfl
     ·simp
     ·have : tgE ⟨lineV s kObj, kw, lineV s2 kTag, (whoOf (lineV s3 kTgr)).2, s4.drop 1⟩ = 1 := by rw [tgE, tgBad, hp, hz]; simp
      rw [this]
      simp [hw]
     ·simp [hw]
  ·rw [if_neg hi]
   have hor : (!lineOk s kObj || !isId (lineV s kObj)) = true := by
    cases h : lineOk s kObj <;> cases h' : isId (lineV s kObj) <;> simp_all
   have h5 : (if kw = 0 then failE (lnE s1 kTyp 2) 2 else lnE s1 kTyp 2) = 2 := by
    rw [key 2 (.inr rfl)]; simp [failE_two]
   rw [h5, key 2 (.inr rfl), ite_self, h2]
   cases h : lineOk s kObj <;> cases h' : isId (lineV s kObj) <;> simp_all
end Go.Graft
namespace Go.Graft
open Go.Sym
def pathBad (p : Str) : Bool := decide (p = []) || decide (255 < (p.length : Int))
theorem allS_false {l : List Str} {q : Str → Bool} {i : Nat} (h : i < l.length) (hq : q l[i]! = false) : l.all q = false := by
 rw [List.all_eq_false]
 refine ⟨l[i], List.getElem_mem h, ?_⟩
 rw [getElem!_pos l i h] at hq
 simpa using hq
theorem allS_true {l : List Str} {q : Str → Bool} (h : ∀ i, i < l.length → q l[i]! = true) : l.all q = true := by
 rw [List.all_eq_true]
 intro x hx
 obtain ⟨i, hi, rfl⟩ := List.getElem_of_mem hx
 have := h i hi
 rwa [getElem!_pos l i hi] at this
theorem pathOk_eq (p : Str) : pathOk p = (!pathBad p && (splitC 47 p).all partOk && decide (((splitC 47 p).length : Int) ≤ 16)) := by
 rw [pathOk, pathBad]
 have e : decide ((p.length : Int) ≤ 255) = !decide (255 < (p.length : Int)) := by rw [← decide_not]; exact decide_eq_decide.2 (by omega)
 have e2 : decide (p ≠ []) = !decide (p = []) := decide_not
 rw [e, e2, Bool.not_or]
theorem pathOk_bad {p : Str} (h : pathBad p = true) : pathOk p = false := by rw [pathOk_eq, h]; rfl
theorem pathOk_part {p : Str} {i : Nat} (h : i < (splitC 47 p).length) (hq : partOk (splitC 47 p)[i]! = false) : pathOk p = false := by
 rw [pathOk_eq, allS_false h hq, Bool.and_false, Bool.false_and]
theorem pathOk_end {p : Str} (hb : pathBad p = false) (h : ∀ i, i < (splitC 47 p).length → partOk (splitC 47 p)[i]! = true) : pathOk p = decide (((splitC 47 p).length : Int) ≤ 16) := by
 rw [pathOk_eq, allS_true h, hb]; rfl
def partsOf (p : Str) : List Str := if p = [] then [] else splitC 47 p
theorem partsOf_len (p : Str) : (partsOf p).length ≤ p.length + 1 := by
 rw [partsOf]
 split
 ·simp
 ·exact (splitC_length 47 p).2
theorem partsOf_mem {p x : Str} (h : x ∈ partsOf p) : x.length ≤ p.length ∧ partOk2 x = partOk x := by
 rw [partsOf] at h
 split at h
 ·simp at h
 ·exact ⟨splitC_mem_len 47 p x h, part_same rfl h⟩
def partsBad (p : Str) : Bool := decide (((partsOf p).length : Int) < 1) || decide (16 < ((partsOf p).length : Int)) || decide (255 < (p.length : Int))
theorem pathOk_parts (p : Str) : pathOk p = (!partsBad p && (partsOf p).all partOk) := by
 by_cases h : p = []
 ·subst h; rfl
 ·have h1 := (splitC_length 47 p).1
  rw [pathOk_eq, pathBad, partsBad, partsOf, if_neg h]
  generalize (splitC 47 p).all partOk = a
  generalize (splitC 47 p).length = n at *
  rw [decide_eq_false h]
  have e1 : decide ((n : Int) < 1) = false := decide_eq_false (by omega)
  have e2 : decide (16 < (n : Int)) = !decide ((n : Int) ≤ 16) := by rw [← decide_not]; exact decide_eq_decide.2 (by omega)
  rw [e1, e2]
  cases decide (255 < (p.length : Int)) <;> cases decide ((n : Int) ≤ 16) <;> cases a <;> rfl
theorem bang_mem {α : Type} [Inhabited α] {l : List α} {i : Nat} (h : i < l.length) : l[i]! ∈ l := by
 rw [getElem!_pos l i h]; exact List.getElem_mem h
def Cuts (p : Str) (F : List Str) (a i : Nat) : Prop := a ≤ i ∧ i ≤ p.length ∧ F.length ≤ i ∧ F ++ pre ((p.take i).drop a) (splitC 47 (p.drop i)) = splitC 47 p
theorem cuts_zero (p : Str) : Cuts p [] 0 0 := ⟨Nat.le_refl _, Nat.zero_le _, Nat.le_refl _, by rw [List.take_zero]; exact pre_nil _⟩
theorem cuts_at {p : Str} {F : List Str} {a i : Nat} (h : Cuts p F a i) (hi : i < p.length) (hc : p.getD i 0 = 47) : Cuts p (F ++ [(p.take i).drop a]) (i + 1) (i + 1) := by
 obtain ⟨h1, h2, h3, h4⟩ := h
 refine ⟨Nat.le_refl _, hi, by simp; omega, ?_⟩
 rw [splitC_at 47 p i hi, if_pos hc] at h4
 have e : (p.take (i + 1)).drop (i + 1) = [] := by simp [List.drop_eq_nil_iff]
 rw [e, pre_nil, ← h4, List.append_assoc]
 simp [pre]
theorem cuts_on {p : Str} {F : List Str} {a i : Nat} (h : Cuts p F a i) (hi : i < p.length) (hc : ¬ p.getD i 0 = 47) : Cuts p F a (i + 1) := by
 obtain ⟨h1, h2, h3, h4⟩ := h
 refine ⟨by omega, hi, by omega, ?_⟩
 rw [splitC_at 47 p i hi, if_neg hc, pre_pre] at h4
 rw [← h4, take_snoc p i hi, List.drop_append_of_le_length (by rw [List.length_take]; omega), getD_bang]
theorem cuts_end {p : Str} {F : List Str} {a : Nat} (h : Cuts p F a p.length) : F ++ [(p.take p.length).drop a] = splitC 47 p := by
 obtain ⟨h1, h2, h3, h4⟩ := h
 rw [List.drop_length] at h4
 simpa [splitC, pre] using h4
end Go.Graft
