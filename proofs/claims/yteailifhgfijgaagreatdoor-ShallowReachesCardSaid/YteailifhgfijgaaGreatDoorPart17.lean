/- A part of the proof: GNam, GPer, GMsc, GHlv, GIt, GCmp, GSame, GFlt, GSpl, GPath, GEnt, GCom, GObj, GObjB. -/
import Derived.Test.YteailifhgfijgaaGreatDoorPart16
import Derived.Lib.Strings
import Derived.Lib.Split
import Derived.Lib.Atoi
import Derived.Lib.IndexAny
import Derived.Lib.ItoaNum
set_option linter.unusedVariables false
set_option linter.unusedSimpArgs false
namespace Go.Graft
def namBad (s : Str) : Bool := decide ((s.length : Int) < 1) || decide (64 < (s.length : Int)) || decide (((s.getD 0 0).toNat : Int) = 32) || decide (((s.getD ((s.length : Int) - 1).toNat 0).toNat : Int) = 32)
def namC (c : UInt8) : Bool := decide ((c.toNat : Int) < 32) || decide ((c.toNat : Int) = 60) || decide ((c.toNat : Int) = 62)
def namOk (s : Str) : Bool := !namBad s && s.all fun c => !namC c
theorem namOk_bad {s : Str} (h : namBad s = true) : namOk s = false := by rw [namOk, h]; rfl
theorem namOk_false {s : Str} {i : Nat} (h : i < s.length) (hp : namC (s.getD i 0) = true) : namOk s = false := by
 rw [namOk, all_false (p := fun c => !namC c) h (by rw [hp]; rfl), Bool.and_false]
theorem namOk_true {s : Str} (hb : namBad s = false) (h : ∀ i, i < s.length → namC (s.getD i 0) = false) : namOk s = true := by
 rw [namOk, hb, all_true (p := fun c => !namC c) fun i hi => by rw [h i hi]; rfl]; rfl
end Go.Graft
namespace Go.Graft
open Go.Sym
structure Per where
 name : Str
 mail : Str
 time : Int
 zone : Int
@[reducible] def perPV (n m : Str) (t z : Int) : PV := .agg [sV n, sV m, iV t, iV z]
def perOk (n m : Str) (t z : Int) : Bool := namOk n && namOk m && decide (0 ≤ t) && decide (t ≤ 1099511627776) && decide (-840 ≤ z) && decide (z ≤ 840)
@[reducible] def entPV (m : Int) (n i : Str) : PV := .agg [iV m, sV n, sV i]
def keyE (m : Int) (n : Str) : Str := if m = 4 then n ++ [47] else n
def modeD (m : Int) : Str := if m = 1 then [49, 48, 48, 54, 52, 52, 32] else if m = 2 then [49, 48, 48, 55, 53, 53, 32] else if m = 3 then [49, 50, 48, 48, 48, 48, 32] else [52, 48, 48, 48, 48, 32]
end Go.Graft
namespace Go.Graft
def modeP (m : Int) : Str := if m = 1 then [49, 48, 48, 54, 52, 52, 32] else if m = 2 then [49, 48, 48, 55, 53, 53, 32] else if m = 3 then [49, 50, 48, 48, 48, 48, 32] else if m = 4 then [52, 48, 48, 48, 48, 32] else []
def zC (c : UInt8) : Bool := decide ((c.toNat : Int) = 0)
def hasZ (s : Str) : Bool := !(s.all fun c => !zC c)
theorem hasZ_true {s : Str} {i : Nat} (h : i < s.length) (hp : zC (s.getD i 0) = true) : hasZ s = true := by
 rw [hasZ, all_false (p := fun c => !zC c) h (by rw [hp]; rfl)]; rfl
theorem hasZ_false {s : Str} (h : ∀ i, i < s.length → zC (s.getD i 0) = false) : hasZ s = false := by
 rw [hasZ, all_true (p := fun c => !zC c) fun i hi => by rw [h i hi]; rfl]; rfl
def hasS (l : List Str) (x : Str) : Bool := decide (x ∈ l)
theorem hasS_true {l : List Str} {i : Nat} {x : Str} (h : i < l.length) (hx : l[i]! = x) : hasS l x = true := by
 rw [hasS, decide_eq_true_eq, ← hx, getElem!_pos l i h]; exact List.getElem_mem h
theorem hasS_false {l : List Str} {x : Str} (h : ∀ i, i < l.length → l[i]! ≠ x) : hasS l x = false := by
 rw [hasS, decide_eq_false_iff_not]
 intro hm
 obtain ⟨i, hi, e⟩ := List.getElem_of_mem hm
 exact h i hi (by rw [getElem!_pos l i hi]; exact e)
end Go.Graft
namespace Go.Graft
def hv (less : Nat → Bool) : Nat → Nat → Nat → Nat
 | 0, lo, _ => lo
 | f + 1, lo, hi => if lo < hi then (if less ((lo + hi) / 2) then hv less f ((lo + hi) / 2 + 1) hi else hv less f lo ((lo + hi) / 2)) else lo
theorem hv_fuel (less : Nat → Bool) : ∀ (f f' lo hi : Nat), hi - lo ≤ f → hi - lo ≤ f' → hv less f lo hi = hv less f' lo hi
 | 0, 0, lo, hi, _, _ => rfl
 | 0, f' + 1, lo, hi, h, _ => by rw [hv, hv, if_neg (by omega)]
 | f + 1, 0, lo, hi, _, h => by rw [hv, hv, if_neg (by omega)]
 | f + 1, f' + 1, lo, hi, h, h' => by
  rw [hv, hv]
  split
  ·split
   ·exact hv_fuel less f f' _ _ (by omega) (by omega)
   ·exact hv_fuel less f f' _ _ (by omega) (by omega)
  ·rfl
def halve (less : Nat → Bool) (n : Nat) : Nat := hv less n 0 n
def hvAt (less : Nat → Bool) (lo hi : Nat) : Nat := hv less (hi - lo) lo hi
theorem hvAt_lt (less : Nat → Bool) (lo hi : Nat) (h : lo < hi) : hvAt less lo hi = if less ((lo + hi) / 2) then hvAt less ((lo + hi) / 2 + 1) hi else hvAt less lo ((lo + hi) / 2) := by
 rw [hvAt, hv_fuel less (hi - lo) (hi - lo + 1) lo hi (by omega) (by omega), hv, if_pos h]
 split
 ·exact hv_fuel less _ _ _ _ (by omega) (by omega)
 ·exact hv_fuel less _ _ _ _ (by omega) (by omega)
theorem hvAt_ge (less : Nat → Bool) (lo hi : Nat) (h : ¬ lo < hi) : hvAt less lo hi = lo := by
 rw [hvAt, show hi - lo = 0 by omega, hv]
theorem halve_eq (less : Nat → Bool) (n : Nat) : halve less n = hvAt less 0 n := by rw [halve, hvAt, Nat.sub_zero]
theorem hvAt_le (less : Nat → Bool) : ∀ (d lo hi : Nat), hi - lo = d → lo ≤ hi → lo ≤ hvAt less lo hi ∧ hvAt less lo hi ≤ hi := by
 intro d
 induction d using Nat.strongRecOn with
 | _ d ih =>
  intro lo hi hd hle
  by_cases h : lo < hi
  ·rw [hvAt_lt less lo hi h]
   split
   ·have := ih (hi - ((lo + hi) / 2 + 1)) (by omega) ((lo + hi) / 2 + 1) hi rfl (by omega)
    omega
   ·have := ih ((lo + hi) / 2 - lo) (by omega) lo ((lo + hi) / 2) rfl (by omega)
    omega
  ·rw [hvAt_ge less lo hi h]; omega
def spot (l : List Str) (x : Str) : Nat := halve (fun i => Op.bytesLess l[i]! x) l.length
end Go.Graft
namespace Go.Graft
open Go.Sym
structure It where
 id : Str
 kind : Int
 body : Str
 deriving Inhabited
@[reducible] def It.pv (x : It) : PV := .agg [sV x.id, iV x.kind, sV x.body]
def place (l : List It) (x : Str) : Nat := halve (fun i => Op.bytesLess l[i]!.id x) l.length
def placed (l : List It) (x : Str) : Bool := decide (((place l x : Nat) : Int) < (l.length : Int)) && decide (l[((place l x : Nat) : Int).toNat]!.id = x)
end Go.Graft
namespace Go.Graft
theorem cmp_eq : ∀ a b : Str, (Lib.compareBytes a b = 0 ↔ a = b) ∧ (Lib.compareBytes a b < 0 ↔ Op.bytesLess a b = true)
 | [], [] => by simp [Lib.compareBytes, Op.bytesLess]
 | [], b :: y => by simp [Lib.compareBytes, Op.bytesLess]
 | a :: x, [] => by simp [Lib.compareBytes, Op.bytesLess]
 | a :: x, b :: y => by
  obtain ⟨h1, h2⟩ := cmp_eq x y
  have tri : a < b ∨ b < a ∨ a = b := by
   rcases Nat.lt_trichotomy a.toNat b.toNat with h | h | h
   ·exact .inl (UInt8.lt_iff_toNat_lt.2 h)
   ·exact .inr (.inr (UInt8.toNat.inj h))
   ·exact .inr (.inl (UInt8.lt_iff_toNat_lt.2 h))
  have irr : ¬ b < b := by simp
  simp only [Lib.compareBytes, Op.bytesLess]
  rcases tri with h | h | h
  ·have hne : ¬ a = b := fun e => irr (e ▸ h)
   simp [h, hne]
  ·have hne : ¬ a = b := fun e => irr (e ▸ h)
   have hnl : ¬ a < b := fun h' => by have h3 := UInt8.lt_iff_toNat_lt.1 h; have h4 := UInt8.lt_iff_toNat_lt.1 h'; omega
   simp [h, hne, hnl]
  ·subst h
   simp [h1, h2]
end Go.Graft
namespace Go.Graft
instance : DecidableEq It := fun a b =>
 if h : a.id = b.id ∧ a.kind = b.kind ∧ a.body = b.body then isTrue (by cases a; cases b; simp at h; obtain ⟨h1, h2, h3⟩ := h; subst h1; subst h2; subst h3; rfl) else isFalse (fun e => h (by subst e; exact ⟨rfl, rfl, rfl⟩))
end Go.Graft
namespace Go.Graft
end Go.Graft
namespace Go.Graft
def pre (x : Str) : List Str → List Str
 | [] => []
 | y :: ys => (x ++ y) :: ys
def splitC (c : UInt8) : Str → List Str
 | [] => [[]]
 | b :: r => if b = c then [] :: splitC c r else pre [b] (splitC c r)
theorem pre_nil (l : List Str) : pre [] l = l := by cases l <;> rfl
theorem pre_pre (x y : Str) (l : List Str) : pre x (pre y l) = pre (x ++ y) l := by cases l <;> simp [pre]
theorem splitC_at (c : UInt8) (s : Str) (i : Nat) (h : i < s.length) : splitC c (s.drop i) = if s.getD i 0 = c then [] :: splitC c (s.drop (i + 1)) else pre [s.getD i 0] (splitC c (s.drop (i + 1))) := by
 rw [List.drop_eq_getElem_cons h, splitC]
 have : s.getD i 0 = s[i] := by simp [List.getD_eq_getElem?_getD, h]
 rw [this]
theorem pre_length (x : Str) (l : List Str) : (pre x l).length = l.length := by cases l <;> rfl
theorem splitC_length (c : UInt8) : ∀ s : Str, 1 ≤ (splitC c s).length ∧ (splitC c s).length ≤ s.length + 1
 | [] => by simp [splitC]
 | b :: r => by
  have := splitC_length c r
  simp only [splitC]
  split
  ·simp; omega
  ·rw [pre_length]; simp; omega
theorem splitC_mem_len (c : UInt8) : ∀ (s : Str) (x : Str), x ∈ splitC c s → x.length ≤ s.length
 | [], x, h => by simp [splitC] at h; subst h; simp
 | b :: r, x, h => by
  have ih := splitC_mem_len c r
  simp only [splitC] at h
  split at h
  ·simp at h
   rcases h with rfl | h
   ·simp
   ·have := ih x h; simp; omega
  ·cases hs : splitC c r with
   | nil => rw [hs] at h; simp [pre] at h
   | cons y ys =>
    rw [hs] at h
    simp [pre] at h
    rcases h with rfl | h
    ·have := ih y (by rw [hs]; simp); simp; omega
    ·have := ih x (by rw [hs]; simp [h]); simp; omega
theorem splitC_mem_ne (c : UInt8) : ∀ (s : Str) (x : Str), x ∈ splitC c s → c ∉ x
 | [], x, h => by simp [splitC] at h; subst h; simp
 | b :: r, x, h => by
  have ih := splitC_mem_ne c r
  simp only [splitC] at h
  split at h
  ·simp at h
   rcases h with rfl | h
   ·simp
   ·exact ih x h
  ·rename_i hb
   cases hs : splitC c r with
   | nil => rw [hs] at h; simp [pre] at h
   | cons y ys =>
    rw [hs] at h
    simp [pre] at h
    rcases h with rfl | h
    ·have := ih y (by rw [hs]; simp)
     simp [this]
     exact fun e => hb e.symm
    ·exact ih x (by rw [hs]; simp [h])
theorem index_one_cons (b c : UInt8) (r : Str) : Lib.index (b :: r) [c] = if b = c then 0 else (if Lib.index r [c] = -1 then -1 else Lib.index r [c] + 1) := by
 rw [Lib.index]
 by_cases h : b = c
 ·subst h; simp [List.isPrefixOf]
 ·have hp : ([c] : List UInt8).isPrefixOf (b :: r) = false := by simp [List.isPrefixOf, Ne.symm h]
  rw [hp, if_neg h]
  simp only [beq_iff_eq, Bool.false_eq_true, if_false]
theorem index_one (c : UInt8) : ∀ s : Str, Lib.index s [c] = Lib.indexByte s c
 | [] => by simp [Lib.index, Lib.indexByte]
 | b :: r => by
  rw [index_one_cons, Lib.indexByte, index_one c r]
  simp only [beq_iff_eq]
theorem split_eq (c : UInt8) : ∀ s : Str, Lib.split s [c] = splitC c s
 | [] => by simp [Lib.split, splitC, Lib.splitK, Lib.count_miss (show Lib.index [] [c] = -1 by simp [Lib.index])]
 | b :: r => by
  have ih := split_eq c r
  rw [Lib.split] at ih ⊢
  simp only [splitC]
  by_cases h : b = c
  ·subst h
   have hix : Lib.index (b :: r) [b] = ((0 : Nat) : Int) := by rw [index_one_cons, if_pos rfl]; rfl
   have hcnt := Lib.count_hit (s := b :: r) (sub := [b]) (by simp) hix
   simp only [if_true]
   rw [hcnt, Nat.add_comm, Lib.splitK, hix]
   simp [ih]
  ·rw [if_neg h]
   by_cases hm : Lib.index r [c] = -1
   ·have hm2 : Lib.index (b :: r) [c] = -1 := by rw [index_one_cons, if_neg h, if_pos hm]
    rw [Lib.count_miss hm] at ih
    rw [Lib.count_miss hm2, Lib.splitK, ← ih, Lib.splitK]
    rfl
   ·have hge := Lib.index_ge r [c]
    obtain ⟨j, hj⟩ : ∃ j : Nat, Lib.index r [c] = j := ⟨(Lib.index r [c]).toNat, by omega⟩
    have hix : Lib.index (b :: r) [c] = ((j + 1 : Nat) : Int) := by rw [index_one_cons, if_neg h, if_neg hm, hj]; omega
    rw [Lib.count_hit (by simp) hj] at ih
    rw [Lib.count_hit (by simp) hix, Nat.add_comm, Lib.splitK, hix]
    rw [Nat.add_comm, Lib.splitK, hj] at ih
    have e1 : ¬ (((j : Nat) : Int) == -1) = true := by simp
    have e2 : ¬ (((j + 1 : Nat) : Int) == -1) = true := by simp; omega
    rw [if_neg e1] at ih
    rw [if_neg e2, ← ih]
    simp only [List.length_singleton, Int.toNat_natCast, Nat.add_zero, List.take_succ_cons, List.drop_succ_cons, pre, List.singleton_append]
end Go.Graft
namespace Go.Graft
def partBad (s : Str) : Bool := decide ((s.length : Int) < 1) || decide (64 < (s.length : Int)) || decide (s = [46]) || decide (s = [46, 46]) || decide (s = [46, 103, 114, 97, 102, 116])
def partOk (s : Str) : Bool := !partBad s && s.all fun c => decide (32 ≤ c.toNat)
def partOk2 (s : Str) : Bool := !partBad s && s.all fun c => decide (32 ≤ c.toNat) && !decide ((c.toNat : Int) = 47)
theorem partOk_bad {s : Str} (h : partBad s = true) : partOk s = false ∧ partOk2 s = false := by rw [partOk, partOk2, h]; exact ⟨rfl, rfl⟩
theorem partOk_false {s : Str} {i : Nat} (h : i < s.length) (hp : ¬ 32 ≤ (s.getD i 0).toNat) : partOk s = false := by
 rw [partOk, all_false h (decide_eq_false hp), Bool.and_false]
theorem partOk_true {s : Str} (hb : partBad s = false) (h : ∀ i, i < s.length → 32 ≤ (s.getD i 0).toNat) : partOk s = true := by
 rw [partOk, hb, all_true fun i hi => decide_eq_true (h i hi)]; rfl
theorem partOk2_false {s : Str} {i : Nat} (h : i < s.length) (hp : ¬ (32 ≤ (s.getD i 0).toNat ∧ ¬ ((s.getD i 0).toNat : Int) = 47)) : partOk2 s = false := by
 rw [partOk2, all_false (p := fun c => decide (32 ≤ c.toNat) && !decide ((c.toNat : Int) = 47)) h ?_, Bool.and_false]
 by_cases h1 : 32 ≤ (s.getD i 0).toNat
 ·have h2 : ((s.getD i 0).toNat : Int) = 47 := by
   by_cases h2 : ((s.getD i 0).toNat : Int) = 47
   ·exact h2
   ·exact absurd ⟨h1, h2⟩ hp
  rw [decide_eq_true h1, decide_eq_true h2]; rfl
 ·rw [decide_eq_false h1, Bool.false_and]
theorem partOk2_true {s : Str} (hb : partBad s = false) (h : ∀ i, i < s.length → 32 ≤ (s.getD i 0).toNat ∧ ¬ ((s.getD i 0).toNat : Int) = 47) : partOk2 s = true := by
 rw [partOk2, hb, all_true fun i hi => by rw [decide_eq_true (h i hi).1, decide_eq_false (h i hi).2]; rfl]; rfl
end Go.Graft
namespace Go.Graft
open Go.Sym
def pathOk (p : Str) : Bool := decide (p ≠ []) && decide ((p.length : Int) ≤ 255) && (splitC 47 p).all partOk && decide (((splitC 47 p).length : Int) ≤ 16)
theorem part_same {c : UInt8} {s x : Str} (hc : c = 47) (h : x ∈ splitC c s) : partOk2 x = partOk x := by
 have hn := splitC_mem_ne c s x h
 subst hc
 have e : (x.all fun c => decide (32 ≤ c.toNat) && !decide ((c.toNat : Int) = 47)) = x.all fun c => decide (32 ≤ c.toNat) := by
  rw [Bool.eq_iff_iff, List.all_eq_true, List.all_eq_true]
  constructor
  ·intro h y hy
   have := h y hy
   simp only [Bool.and_eq_true] at this
   exact this.1
  ·intro h y hy
   have h1 := h y hy
   have h2 : ¬ ((y.toNat : Int) = 47) := fun e => hn (by
    have : y = 47 := UInt8.toNat.inj (by show y.toNat = 47; omega)
    rw [← this]; exact hy)
   simp [h1, h2]
 rw [partOk2, partOk, e]
structure En where
 mode : Int
 name : Str
 id : Str
 deriving Inhabited
@[reducible] def En.pv (x : En) : PV := entPV x.mode x.name x.id
def En.key (x : En) : Str := keyE x.mode x.name
def mayE (x : En) : Bool := decide (1 ≤ x.mode) && decide (x.mode ≤ 4) && pathOk x.name && decide (Lib.indexByte x.name 47 < 0) && isId x.id
def firstE (f : Nat → Int) : Nat → Int
 | 0 => 0
 | n + 1 => if firstE f n = 0 then f n else firstE f n
theorem firstE_zero {f : Nat → Int} : ∀ {n : Nat}, (∀ j, j < n → f j = 0) → firstE f n = 0
 | 0, _ => rfl
 | n + 1, h => by rw [firstE, if_pos (firstE_zero fun j hj => h j (by omega)), h n (by omega)]
theorem firstE_stop {f : Nat → Int} {i : Nat} : ∀ {n : Nat}, i < n → (∀ j, j < i → f j = 0) → f i ≠ 0 → firstE f n = f i
 | 0, h, _, _ => by omega
 | n + 1, h, hj, hi => by
  by_cases e : i = n
  ·subst e; rw [firstE, if_pos (firstE_zero hj)]
  ·rw [firstE, firstE_stop (by omega) hj hi, if_neg hi]
def entE (l : List En) (i : Nat) : Int :=
 if mayE l[i]! = false then 1 else if 0 < i ∧ Op.bytesLess l[i - 1]!.key l[i]!.key = false then 150 else if hasS ((l.take i).map En.name) l[i]!.name = true then 6 else 0
def checkE (l : List En) : Int := if 1024 < l.length then 4 else firstE (entE l) l.length
def modeOf (s : Str) : Int :=
 if Lib.hasPrefix s (modeD 1) then 1 else if Lib.hasPrefix s (modeD 2) then 2 else if Lib.hasPrefix s (modeD 3) then 3 else if Lib.hasPrefix s (modeD 4) then 4
 else if Lib.hasPrefix (modeD 1) s || Lib.hasPrefix (modeD 2) s || Lib.hasPrefix (modeD 3) s || Lib.hasPrefix (modeD 4) s then -1 else 0
def oneE (s : Str) : Int × En × Str :=
 if modeOf s = -1 then (3, ⟨0, [], []⟩, []) else if modeOf s = 0 then (2, ⟨0, [], []⟩, []) else
 let r := s.drop (modeD (modeOf s)).length
 if Lib.indexByte r 0 < 0 then (3, ⟨0, [], []⟩, []) else
 let k := (Lib.indexByte r 0).toNat
 if r.length < k + 21 then (3, ⟨0, [], []⟩, []) else (0, ⟨modeOf s, r.take k, hexOf ((r.drop (k + 1)).take 20)⟩, r.drop (k + 21))
def parseA : Nat → Str → List En → Int × List En
 | 0, _, acc => (0, acc)
 | f + 1, s, acc => if s = [] then (0, acc) else if (oneE s).1 ≠ 0 then ((oneE s).1, []) else parseA f (oneE s).2.2 (acc ++ [(oneE s).2.1])
def entsA (s : Str) (acc : List En) : Int × List En := parseA s.length s acc
theorem oneE_short {s : Str} (h : (oneE s).1 = 0) : (oneE s).2.2.length < s.length := by
 simp only [oneE] at h ⊢
 split
 ·rename_i h1; rw [if_pos h1] at h; simp at h
 rename_i h1
 rw [if_neg h1] at h
 split
 ·rename_i h2; rw [if_pos h2] at h; simp at h
 rename_i h2
 rw [if_neg h2] at h
 split
 ·rename_i h3; rw [if_pos h3] at h; simp at h
 rename_i h3
 rw [if_neg h3] at h
 split
 ·rename_i h4; rw [if_pos h4] at h; simp at h
 rename_i h4
 simp only [List.length_drop] at h4 ⊢
 omega
theorem parseA_fuel : ∀ (f f' : Nat) (s : Str) (acc : List En), s.length ≤ f → s.length ≤ f' → parseA f s acc = parseA f' s acc
 | 0, 0, _, _, _, _ => rfl
 | 0, f' + 1, s, acc, h, _ => by
  have : s = [] := List.length_eq_zero_iff.1 (by omega)
  subst this; rfl
 | f + 1, 0, s, acc, _, h => by
  have : s = [] := List.length_eq_zero_iff.1 (by omega)
  subst this; rfl
 | f + 1, f' + 1, s, acc, h, h' => by
  rw [parseA, parseA]
  split
  ·rfl
  split
  ·rfl
  rename_i h0 h1
  have := oneE_short (s := s) (by simpa using h1)
  exact parseA_fuel f f' _ _ (by omega) (by omega)
theorem entsA_nil (acc : List En) : entsA [] acc = (0, acc) := rfl
theorem entsA_err {s : Str} {acc : List En} (h : s ≠ []) (h1 : (oneE s).1 ≠ 0) : entsA s acc = ((oneE s).1, []) := by
 rw [entsA]
 cases hl : s.length with
 | zero => exact absurd (List.length_eq_zero_iff.1 hl) h
 | succ f => rw [parseA, if_neg h, if_pos h1]
theorem entsA_one {s : Str} {acc : List En} (h : s ≠ []) (h1 : (oneE s).1 = 0) : entsA s acc = entsA (oneE s).2.2 (acc ++ [(oneE s).2.1]) := by
 have hs := oneE_short h1
 rw [entsA]
 cases hl : s.length with
 | zero => exact absurd (List.length_eq_zero_iff.1 hl) h
 | succ f => rw [parseA, if_neg h, if_neg (by simp [h1]), entsA]; exact parseA_fuel _ _ _ _ (by omega) (by omega)
def treeOf (s : Str) : Int × List En :=
 if (entsA s []).1 ≠ 0 then ((entsA s []).1, []) else if checkE (entsA s []).2 ≠ 0 then (checkE (entsA s []).2, []) else (0, (entsA s []).2)
end Go.Graft
namespace Go.Graft
open Go.Sym
def badD (c : UInt8) : Bool := decide ((c.toNat : Int) < 48) || decide (57 < (c.toNat : Int))
def valF (n : Nat) (c : UInt8) : Nat := 10 * n + (c.toNat - 48)
def valD (s : Str) : Nat := s.foldl valF 0
def numBad (s : Str) : Bool := decide ((s.length : Int) < 1) || decide (18 < (s.length : Int)) || (decide (1 < (s.length : Int)) && decide (((s.getD 0 0).toNat : Int) = 48))
def numOk (s : Str) : Bool := !numBad s && s.all fun c => !badD c
theorem numOk_bad {s : Str} (h : numBad s = true) : numOk s = false := by rw [numOk, h]; rfl
theorem numOk_false {s : Str} {i : Nat} (h : i < s.length) (hp : badD (s.getD i 0) = true) : numOk s = false := by
 rw [numOk, all_false (p := fun c => !badD c) h (by rw [hp]; rfl), Bool.and_false]
theorem numOk_true {s : Str} (hb : numBad s = false) (h : ∀ i, i < s.length → badD (s.getD i 0) = false) : numOk s = true := by
 rw [numOk, hb, all_true (p := fun c => !badD c) fun i hi => by rw [h i hi]; rfl]; rfl
theorem numOk_len {s : Str} (h : numOk s = true) : 1 ≤ s.length ∧ s.length ≤ 18 := by
 simp only [numOk, Bool.and_eq_true, Bool.not_eq_true', numBad, Bool.or_eq_false_iff, decide_eq_false_iff_not] at h
 omega
theorem numOk_all {s : Str} (h : numOk s = true) : ∀ c ∈ s, badD c = false := by
 simp only [numOk, Bool.and_eq_true] at h
 intro c hc
 have := (List.all_eq_true.1 h.2) c hc
 simpa using this
theorem dec_val : ∀ (s : Str) (a : Nat), (∀ c ∈ s, badD c = false) → Lib.decFrom a s = some (s.foldl valF a)
 | [], a, _ => rfl
 | b :: r, a, h => by
  have hb := h b (by simp)
  simp only [badD, Bool.or_eq_false_iff, decide_eq_false_iff_not] at hb
  have hd : Lib.digitVal b = some (b.toNat - 48) := by rw [Lib.digitVal, if_pos ⟨by omega, by omega⟩]
  simp only [Lib.decFrom, hd, List.foldl_cons]
  rw [dec_val r _ fun c hc => h c (by simp [hc])]
  rw [valF, Nat.mul_comm]
theorem atoi_val {s : Str} (h0 : s ≠ []) (h : ∀ c ∈ s, badD c = false) : Lib.atoi s = some ((valD s : Nat) : Int) := by
 cases s with
 | nil => exact absurd rfl h0
 | cons b r =>
  have hb := h b (by simp)
  simp only [badD, Bool.or_eq_false_iff, decide_eq_false_iff_not] at hb
  have e1 : (b == 45) = false := by
   have : b ≠ 45 := by rintro rfl; exact absurd hb.1 (by decide)
   simpa using this
  have e2 : (b == 43) = false := by
   have : b ≠ 43 := by rintro rfl; exact absurd hb.1 (by decide)
   simpa using this
  have e3 : Lib.decNat (b :: r) = some (valD (b :: r)) := by rw [Lib.decNat, dec_val _ _ h]; rfl
  simp only [Lib.atoi, e1, e2, e3]
  rfl
theorem valD_bound (s : Str) (h : ∀ c ∈ s, badD c = false) : ∀ a : Nat, s.foldl valF a < (a + 1) * 10 ^ s.length := by
 induction s with
 | nil => intro a; simp
 | cons b r ih =>
  intro a
  have hb := h b (by simp)
  simp only [badD, Bool.or_eq_false_iff, decide_eq_false_iff_not] at hb
  have := ih (fun c hc => h c (by simp [hc])) (valF a b)
  simp only [List.foldl_cons, List.length_cons]
  have h1 : valF a b + 1 ≤ (a + 1) * 10 := by rw [valF]; omega
  calc _ < (valF a b + 1) * 10 ^ r.length := this
   _ ≤ ((a + 1) * 10) * 10 ^ r.length := Nat.mul_le_mul_right _ h1
   _ = (a + 1) * 10 ^ (r.length + 1) := by rw [Nat.pow_succ, Nat.mul_assoc, Nat.mul_comm 10]
theorem valD_lt {s : Str} (h : ∀ c ∈ s, badD c = false) (k : Nat) (hk : s.length ≤ k) : valD s < 10 ^ k := by
 have := valD_bound s h 0
 have h2 : 10 ^ s.length ≤ 10 ^ k := Nat.pow_le_pow_right (by omega) hk
 rw [valD]; omega
theorem valD_take (s : Str) (i : Nat) (h : i < s.length) : valD (s.take (i + 1)) = valF (valD (s.take i)) (s.getD i 0) := by
 rw [take_snoc s i h, valD, List.foldl_append, getD_bang]; rfl
def zonBad (s : Str) : Bool := decide (¬ (s.length : Int) = 5) || (decide (¬ ((s.getD 0 0).toNat : Int) = 43) && decide (¬ ((s.getD 0 0).toNat : Int) = 45)) || decide (s = [45, 48, 48, 48, 48])
def zonM (s : Str) : Int := valD (s.drop 3)
def zonH (s : Str) : Int := valD ((s.drop 1).take 2)
def zonOk (s : Str) : Bool := !zonBad s && (s.drop 1).all (fun c => !badD c) && decide (zonM s < 60)
def zonV (s : Str) : Int := if zonOk s = false then 0 else if ((s.getD 0 0).toNat : Int) = 45 then -60 * zonH s - zonM s else 60 * zonH s + zonM s
def zeroPer : Per := ⟨[], [], 0, 0⟩
@[reducible] def Per.pv (p : Per) : PV := perPV p.name p.mail p.time p.zone
def angled (s : Str) : Bool := s.any fun c => decide (c = 60) || decide (c = 62)
def whoOf (s : Str) : Int × Per :=
 if ((Lib.cut s [32, 60]).2.2 && (Lib.cut (Lib.cut s [32, 60]).2.1 [62, 32]).2.2 && (Lib.cut (Lib.cut (Lib.cut s [32, 60]).2.1 [62, 32]).2.1 [32]).2.2 && numOk (Lib.cut (Lib.cut (Lib.cut s [32, 60]).2.1 [62, 32]).2.1 [32]).1 && zonOk (Lib.cut (Lib.cut (Lib.cut s [32, 60]).2.1 [62, 32]).2.1 [32]).2.1 && !angled ((Lib.cut s [32, 60]).1 ++ (Lib.cut (Lib.cut s [32, 60]).2.1 [62, 32]).1)) = false then (2, zeroPer)
 else if perOk (Lib.cut s [32, 60]).1 (Lib.cut (Lib.cut s [32, 60]).2.1 [62, 32]).1 (valD (Lib.cut (Lib.cut (Lib.cut s [32, 60]).2.1 [62, 32]).2.1 [32]).1) (zonV (Lib.cut (Lib.cut (Lib.cut s [32, 60]).2.1 [62, 32]).2.1 [32]).2.1) = false then (1, zeroPer)
 else (0, ⟨(Lib.cut s [32, 60]).1, (Lib.cut (Lib.cut s [32, 60]).2.1 [62, 32]).1, valD (Lib.cut (Lib.cut (Lib.cut s [32, 60]).2.1 [62, 32]).2.1 [32]).1, zonV (Lib.cut (Lib.cut (Lib.cut s [32, 60]).2.1 [62, 32]).2.1 [32]).2.1⟩)
def findS (s t : Str) (a : Nat) : Int := if Lib.index (s.drop a) t < 0 then -1 else a + Lib.index (s.drop a) t
theorem findS_none {s t : Str} {a : Nat} (ht : t ≠ []) (h : ∀ j, a ≤ j → j + t.length ≤ s.length → (s.drop j).take t.length ≠ t) : findS s t a = -1 := by
 rw [findS, Lib.index_none]; rfl
 intro j hj
 cases ho : Lib.occAt (s.drop a) t j with
 | false => rfl
 | true =>
  exfalso
  have hr := (Lib.occAt_room ho).resolve_right ht
  rw [Lib.occAt_iff_take _ _ _ hr, List.drop_drop] at ho
  rw [List.length_drop] at hr hj
  by_cases hja : a ≤ s.length
  ·exact h (a + j) (by omega) (by omega) (by simpa using ho)
  ·have : t.length = 0 := by omega
   exact ht (List.length_eq_zero_iff.1 this)
theorem findS_some {s t : Str} {a i : Nat} (ha : a ≤ i) (hi : i + t.length ≤ s.length) (h : ∀ j, a ≤ j → j < i → (s.drop j).take t.length ≠ t) (hc : (s.drop i).take t.length = t) : findS s t a = (i : Int) := by
 have := Lib.index_first (s := s.drop a) (sub := t) (i := i - a) (by rw [List.length_drop]; omega) (by
  rw [Lib.occAt_iff_take _ _ _ (by rw [List.length_drop]; omega), List.drop_drop, show a + (i - a) = i by omega, hc]; simp) (fun j hj => by
  rw [Lib.occAt_iff_take _ _ _ (by rw [List.length_drop]; omega), List.drop_drop]
  simpa using h (a + j) (by omega) (by omega))
 rw [findS, this, if_neg (by omega)]; omega
theorem findS_cases (s t : Str) (a : Nat) : (findS s t a = -1 ∧ Lib.index (s.drop a) t = -1) ∨ ∃ i : Nat, findS s t a = (i : Int) ∧ a ≤ i ∧ Lib.index (s.drop a) t = ((i - a : Nat) : Int) ∧ (a ≤ s.length → i + t.length ≤ s.length) := by
 have hge := Lib.index_ge (s.drop a) t
 by_cases h : Lib.index (s.drop a) t < 0
 ·exact .inl ⟨by rw [findS, if_pos h], by omega⟩
 ·right
  have hr := Lib.index_room (s.drop a) t (by omega)
  refine ⟨a + (Lib.index (s.drop a) t).toNat, by rw [findS, if_neg h]; omega, by omega, by omega, fun ha => ?_⟩
  rw [List.length_drop] at hr
  omega
end Go.Graft
namespace Go.Graft
open Go.Sym
def wBlob : Str := [98, 108, 111, 98]
def wTree : Str := [116, 114, 101, 101]
def wCommit : Str := [99, 111, 109, 109, 105, 116]
def wTag : Str := [116, 97, 103]
def wordK (k : Int) : Str := if k = 1 then wBlob else if k = 2 then wTree else if k = 3 then wCommit else if k = 4 then wTag else []
def kindW (w : Str) : Int := if w = wBlob then 1 else if w = wTree then 2 else if w = wCommit then 3 else if w = wTag then 4 else 0
@[reducible] def objPV (k : Int) (b : Str) : PV := .agg [iV k, sV b]
def objErr (k : Int) (b : Str) : Int := if wordK k = [] then 140 else if (1048576 : Int) < b.length then 4 else 0
def objText (k : Int) (b : Str) : Str := wordK k ++ [32] ++ Lib.itoa b.length ++ [0] ++ b
def objBytes (k : Int) (b : Str) : Str := if objErr k b = 0 then objText k b else []
def objId (k : Int) (b : Str) : Str := if objErr k b = 0 then idOf (objText k b) else []
theorem wordK_len (k : Int) : (wordK k).length ≤ 6 := by
 unfold wordK
 repeat' split
 all_goals decide
end Go.Graft
namespace Go.Graft
open Go.Sym
theorem kindW_wordK (k : Nat) (h1 : 1 ≤ k) (h2 : k ≤ 4) : kindW (wordK (k : Int)) = (k : Int) ∧ wordK (k : Int) ≠ [] := by
 obtain rfl | rfl | rfl | rfl : k = 1 ∨ k = 2 ∨ k = 3 ∨ k = 4 := by omega
 all_goals decide
theorem kindW_none (w : Str) (h : ∀ j : Nat, 1 ≤ j → j < 5 → wordK (j : Int) ≠ w) : kindW w = 0 := by
 have h1 := h 1 (by omega) (by omega)
 have h2 := h 2 (by omega) (by omega)
 have h3 := h 3 (by omega) (by omega)
 have h4 := h 4 (by omega) (by omega)
 rw [kindW, if_neg (fun e => h1 e.symm), if_neg (fun e => h2 e.symm), if_neg (fun e => h3 e.symm), if_neg (fun e => h4 e.symm)]
theorem wordK_none (k : Int) (h : ∀ j : Nat, j < 4 → (j : Int) + 1 ≠ k) : wordK k = [] := by
 have h1 := h 0 (by omega)
 have h2 := h 1 (by omega)
 have h3 := h 2 (by omega)
 have h4 := h 3 (by omega)
 rw [wordK, if_neg (by omega), if_neg (by omega), if_neg (by omega), if_neg (by omega)]
def kindsPV : List PV := [iV 1, sV wBlob, iV 2, sV wTree, iV 3, sV wCommit, iV 4, sV wTag]
theorem kinds_part (i : Nat) (h : i < 4) : PartR kindsPV ((i : Int).toNat * 2) (some 2) (.agg [iV ((i : Int) + 1), sV (wordK ((i : Int) + 1))]) := by
 obtain rfl | rfl | rfl | rfl : i = 0 ∨ i = 1 ∨ i = 2 ∨ i = 3 := by omega
 all_goals (refine .agg (by repeat constructor) (by repeat constructor))
theorem dec_step (k : Nat) (s : Str) : (if k / 10 = 0 then UInt8.ofNat (48 + k % 10) :: s else Lib.decDigits (k / 10) ++ UInt8.ofNat (48 + k % 10) :: s) = Lib.decDigits k ++ s := by
 conv => rhs; rw [Lib.decDigits]
 by_cases h : k < 10
 ·rw [if_pos (by omega), dif_pos h, Nat.mod_eq_of_lt h]; rfl
 ·rw [if_neg (by omega), dif_neg h]; simp
theorem dig_val (k : Nat) : IntKind.wrap .u8 (48 + max ((k % 10 : Nat) : Int) (IntKind.wrap .i64 (0 - ((k % 10 : Nat) : Int)))) = ((UInt8.ofNat (48 + k % 10)).toNat : Int) := by
 have key : ∀ d : Fin 10, IntKind.wrap .u8 (48 + max ((d.val : Nat) : Int) (IntKind.wrap .i64 (0 - ((d.val : Nat) : Int)))) = ((UInt8.ofNat (48 + d.val)).toNat : Int) := by decide
 exact key ⟨k % 10, Nat.mod_lt _ (by omega)⟩
theorem dig_max (k : Nat) : max ((k % 10 : Nat) : Int) (IntKind.wrap .i64 (0 - ((k % 10 : Nat) : Int))) = ((k % 10 : Nat) : Int) := by
 have key : ∀ d : Fin 10, max ((d.val : Nat) : Int) (IntKind.wrap .i64 (0 - ((d.val : Nat) : Int))) = (d.val : Int) := by decide
 exact key ⟨k % 10, Nat.mod_lt _ (by omega)⟩
theorem itoa_nat (n : Nat) : Lib.itoa (n : Int) = Lib.decDigits n := by
 rw [Lib.itoa, if_neg (by omega)]; rfl
end Go.Graft
