/- A part of the proof: GSame, Gzf, Gzg, GFlt, Gzh, GSpl, GEnt, GCom, GLin. -/
import Derived.Test.YtbnnmnbidkpmcaaGreatDoorPart27
import Derived.Lib.Split
import Derived.Lib.Atoi
import Derived.Lib.IndexAny
set_option linter.unusedVariables false
set_option linter.unusedSimpArgs false
namespace Go.Graft
theorem ext_bang {α : Type} [Inhabited α] {a b : List α} (hl : a.length = b.length) (h : ∀ j, j < a.length → a[j]! = b[j]!) : a = b := by
 refine List.ext_getElem hl fun i h1 h2 => ?_
 have := h i h1
 rw [getElem!_pos a i h1, getElem!_pos b i h2] at this
 exact this
theorem ne_bang {α : Type} [Inhabited α] {a b : List α} {j : Nat} (h : a[j]! ≠ b[j]!) : a ≠ b := fun e => h (by rw [e])
theorem ne_len {α : Type} {a b : List α} (h : a.length ≠ b.length) : a ≠ b := fun e => h (by rw [e])
instance : DecidableEq It := fun a b =>
 if h : a.id = b.id ∧ a.kind = b.kind ∧ a.body = b.body then isTrue (by cases a; cases b; simp at h; obtain ⟨h1, h2, h3⟩ := h; subst h1; subst h2; subst h3; rfl) else isFalse (fun e => h (by subst e; exact ⟨rfl, rfl, rfl⟩))
theorem it_eq {a b : It} : a = b ↔ a.id = b.id ∧ a.kind = b.kind ∧ a.body = b.body := by
 constructor
 ·intro h; subst h; exact ⟨rfl, rfl, rfl⟩
 ·intro h; cases a; cases b; simp at h; obtain ⟨h1, h2, h3⟩ := h; subst h1; subst h2; subst h3; rfl
end Go.Graft
namespace Go.Proofs.Tryz
open Go Go.Sym Go.Graft
set_option maxRecDepth 20000
theorem cSameTexts (na nb : Bool) (a b : List Str) (ha : a.length ≤ 1000000000) (hb : b.length ≤ 1000000000) : Ctr prog 18 [.sl na 1 (a.map sV), .sl nb 1 (b.map sV)] [] (bV (decide (a = b))) [] [] := by
 refine Ctr.enter tblOk func18 rfl (by decide) rfl (nt := 26) rfl rfl rfl rfl ?_
 refine Trip.sr tblOk ?_
 refine Trip.seq (Trip.sr tblOk ?_)
 apply Trip.cond (.tmp rfl)
 ·intro h
  have h : a.length ≠ b.length := by simp at h; omega
  rw [decide_eq_false (ne_len h)]
  refine Trip.sr tblOk ?_
  refine Trip.ret (rt1 [] (hc := by repeat' (exact cvB (by simp only [List.length_map]))))
 intro h
 have hl : a.length = b.length := by simp at h; omega
 refine Trip.skip (Trip.seq (Trip.sr tblOk ?_))
 refine Trip.block ?_
 refine Trip.loop (fun (i : Nat) => ⟨[(0, .sl na 1 (a.map sV)), (1, .sl nb 1 (b.map sV)), (5, iV i)], []⟩) (fun (i : Nat) => i ≤ a.length ∧ ∀ j, j < i → a[j]! = b[j]!) (fun (i : Nat) => a.length - i) (0) (by exact ⟨Nat.zero_le _, fun j hj => absurd hj (by omega)⟩) Weak.kp ?_
 intro i hi
 obtain ⟨hi, hj⟩ := hi
 refine Trip.seq (Trip.sr tblOk ?_)
 apply Trip.cond (.tmp rfl)
 ·intro h
  have h : i < a.length := by simp at h; omega
  refine Trip.skip (Trip.seq (Trip.block (Trip.sD tblOk mixed (by repeat' (first | exact rfl | exact idx_map _ _ _ (by show _ < _; first | omega | (simp only [List.length_map] at *; omega)) | ((with_reducible refine Side.mk ?_); (simp only [ln]; first | done | omega)) | constructor)) ?_)))
  apply Trip.cond (.tmp rfl)
  ·intro h2
   have h2 : a[i]! ≠ b[i]! := by simpa using h2
   rw [decide_eq_false (ne_bang h2)]
   refine Trip.sr tblOk ?_
   refine Trip.ret (rt1 [] (hc := by repeat' (exact cvB (by simp only [List.length_map]))))
  intro h2
  have h2 : a[i]! = b[i]! := by simpa using h2
  refine Trip.skip (Trip.R tblOk (by repeat' (first | exact rfl | ((with_reducible refine Side.mk ?_); omega) | constructor)) ?_)
  exact ⟨i + 1, by exact ⟨by omega, fun j h3 => (Nat.lt_succ_iff_lt_or_eq.1 h3).elim (hj j) (fun e => e ▸ h2)⟩, by first | omega | (dsimp only at *; omega), Weak.kp⟩
 intro h
 have h : i = a.length := by simp at h; omega
 subst h
 refine Trip.exit ?_
 rw [decide_eq_true (ext_bang hl hj)]
 refine Trip.sr tblOk ?_
 refine Trip.ret (rt1 [] (hc := by repeat' (exact cvB (by simp only [List.length_map]))))
end Go.Proofs.Tryz
namespace Go.Proofs.Tryz
open Go Go.Sym Go.Graft
set_option maxRecDepth 20000
theorem it_dec (x y : It) : (!(decide (x.id = y.id) && (decide (x.kind = y.kind) && (decide (x.body = y.body) && true)))) = !decide (x = y) := by
 congr 1
 rw [Bool.eq_iff_iff]
 simp [it_eq]
theorem cSame17 (na nb : Bool) (a b : List It) (ha : a.length ≤ 1000000000) (hb : b.length ≤ 1000000000) : Ctr prog 14 [stPV na a, stPV nb b] [] (bV (decide (a = b))) [] [] := by
 refine Ctr.enter tblOk func14 rfl (by decide) rfl (nt := 31) rfl rfl rfl rfl ?_
 refine Trip.sr tblOk ?_
 refine Trip.seq (Trip.sr tblOk ?_)
 apply Trip.cond (.tmp rfl)
 ·intro h
  have h : a.length ≠ b.length := by simp at h; omega
  rw [decide_eq_false (ne_len h)]
  refine Trip.sr tblOk ?_
  refine Trip.ret (rt1 [] (hc := by repeat' (exact cvB (by simp only [List.length_map]))))
 intro h
 have hl : a.length = b.length := by simp at h; omega
 refine Trip.skip (Trip.seq (Trip.sr tblOk ?_))
 refine Trip.block ?_
 refine Trip.loop (fun (i : Nat) => ⟨[(2, .ref 2 0), (3, .ref 3 0), (5, iV i)], [(2, .box [.sl na 3 (a.map It.pv)]), (3, .box [.sl nb 3 (b.map It.pv)])]⟩) (fun (i : Nat) => i ≤ a.length ∧ ∀ j, j < i → a[j]! = b[j]!) (fun (i : Nat) => a.length - i) (0) (by exact ⟨Nat.zero_le _, fun j hj => absurd hj (by omega)⟩) Weak.kp ?_
 intro i hi
 obtain ⟨hi, hj⟩ := hi
 refine Trip.seq (Trip.sr tblOk ?_)
 apply Trip.cond (.tmp rfl)
 ·intro h
  have h : i < a.length := by simp at h; omega
  refine Trip.skip (Trip.seq (Trip.block (Trip.sD tblOk mixed (by repeat' (first | exact rfl | exact idx_map _ _ _ (by show _ < _; first | omega | (simp only [List.length_map] at *; omega)) | ((with_reducible refine Side.mk ?_); (simp only [ln]; first | done | omega)) | constructor)) ?_)))
  apply Trip.cond (.tmp rfl)
  ·intro h2
   have h2 : a[i]! ≠ b[i]! := by rw [it_dec] at h2; simpa using h2
   rw [decide_eq_false (ne_bang h2)]
   refine Trip.sr tblOk ?_
   refine Trip.ret (rt1 [] (hc := by repeat' (exact cvB (by simp only [List.length_map]))))
  intro h2
  have h2 : a[i]! = b[i]! := by rw [it_dec] at h2; simpa using h2
  refine Trip.skip (Trip.R tblOk (by repeat' (first | exact rfl | ((with_reducible refine Side.mk ?_); omega) | constructor)) ?_)
  exact ⟨i + 1, by exact ⟨by omega, fun j h3 => (Nat.lt_succ_iff_lt_or_eq.1 h3).elim (hj j) (fun e => e ▸ h2)⟩, by first | omega | (dsimp only at *; omega), Weak.kp⟩
 intro h
 have h : i = a.length := by simp at h; omega
 subst h
 refine Trip.exit ?_
 rw [decide_eq_true (ext_bang hl hj)]
 refine Trip.sr tblOk ?_
 refine Trip.ret (rt1 [] (hc := by repeat' (exact cvB (by simp only [List.length_map]))))
end Go.Proofs.Tryz
namespace Go.Graft
def filtN {α : Type} (q : α → Bool) (l : List α) (i : Nat) : List α := (l.take i).filter q
theorem filtN_succ {α : Type} [Inhabited α] (q : α → Bool) (l : List α) (i : Nat) (h : i < l.length) : filtN q l (i + 1) = if q l[i]! then filtN q l i ++ [l[i]!] else filtN q l i := by
 rw [filtN, take_snoc l i h, List.filter_append]
 generalize l[i]! = x
 by_cases hq : q x = true
 ·rw [if_pos hq]; simp [hq, filtN]
 ·rw [if_neg hq]; simp [hq, filtN]
theorem filtN_all {α : Type} (q : α → Bool) (l : List α) : filtN q l l.length = l.filter q := by rw [filtN, List.take_of_length_le (Nat.le_refl _)]
theorem filtN_le {α : Type} (q : α → Bool) (l : List α) (i : Nat) : (filtN q l i).length ≤ l.length := by
 have h1 : (filtN q l i).length ≤ (l.take i).length := List.length_filter_le _ _
 rw [List.length_take] at h1
 omega
end Go.Graft
namespace Go.Proofs.Tryz
open Go Go.Sym Go.Graft
set_option maxRecDepth 20000
theorem cLess17 (na nb : Bool) (a b : List It) (ha : a.length ≤ 1000000000) (hb : b.length ≤ 1000000000) : Ctr prog 36 [stPV na a, stPV nb b] [] (stPV (a.filter fun x => !placed b x.id).isEmpty (a.filter fun x => !placed b x.id)) [] [] := by
 generalize hq : (fun x : It => !placed b x.id) = q
 refine Ctr.enter tblOk func36 rfl (by decide) rfl (nt := 33) rfl rfl rfl rfl ?_
 refine Trip.sr tblOk ?_
 refine Trip.sr tblOk ?_
 refine Trip.seq (Trip.sr tblOk ?_)
 refine Trip.block ?_
 apply Trip.loop (fun (i : Nat) => ⟨[(2, .ref 2 0), (3, .ref 3 0), (4, .ref 4 0), (5, .osl 900 0 (filtN q a i).length (filtN q a i).length), (6, iV i)], [(900, .arr 3 (filtN q a i).isEmpty ((filtN q a i).map It.pv)), (2, .box [.sl na 3 (a.map It.pv)]), (3, .box [.sl nb 3 (b.map It.pv)]), (4, .box [nilS])]⟩) (fun (i : Nat) => i ≤ a.length) (fun (i : Nat) => a.length - i) (0)
 ·first | omega | (simp; done)
 ·refine Weak.trans (S2 := ⟨[(2, .ref 2 0), (3, .ref 3 0), (4, .ref 4 0), (5, nilS), (6, iV 0)], [(2, .box [.sl na 3 (a.map It.pv)]), (3, .box [.sl nb 3 (b.map It.pv)]), (4, .box [nilS])]⟩) ?_ ?_
  ·exact Weak.kp
  ·exact Weak.adopt 900 3 rfl rfl (by repeat' (first | exact rfl | constructor)) (by repeat' (first | exact rfl | constructor))
 intro i hi
 have hfs := filtN_succ q a i
 have hfl := filtN_le q a i
 refine Trip.seq (Trip.sr tblOk ?_)
 apply Trip.cond (.tmp rfl)
 ·intro h
  have h : i < a.length := by simp at h; omega
  have hfs := hfs h
  have c := cHas17 nb b a[i]!.id hb
  have hqi : q a[i]! = !placed b a[i]!.id := by rw [← hq]
  generalize placed b a[i]!.id = pl at *
  generalize hF : filtN q a (i + 1) = F' at *
  generalize filtN q a i = F at *
  refine Trip.skip ?_
  refine Trip.seqk ⟨[(2, .ref 2 0), (3, .ref 3 0), (4, .ref 4 0), (5, .osl 900 0 F'.length F'.length), (6, iV i)], [(900, .arr 3 F'.isEmpty (F'.map It.pv)), (2, .box [.sl na 3 (a.map It.pv)]), (3, .box [.sl nb 3 (b.map It.pv)]), (4, .box [nilS])]⟩ ?_ ?_
  ·refine Trip.block (Trip.sD tblOk mixed (by repeat' (first | exact rfl | (apply Rule.sem; intro hγ; with_reducible apply F_call0 (x := .func 66) (B := []) hγ (hspec := c)) | exact idx_map _ _ _ (by show _ < _; first | omega | (simp only [List.length_map] at *; omega)) | ((with_reducible refine Side.mk ?_); first | exact .inl rfl | (simp only [ln]; first | done | omega)) | constructor)) ?_)
   apply Trip.cond (.tmp rfl)
   ·intro h2
    have h2 : q a[i]! = true := by rw [hqi]; exact h2
    rw [if_pos h2] at hfs
    subst hfs
    refine Trip.R tblOk (by repeat' (first | exact rfl | exact idx_map _ _ _ (by show _ < _; first | omega | (simp only [List.length_map] at *; omega)) | ((with_reducible refine Side.mk ?_); (simp only [ln]; first | done | omega)) | constructor)) ?_
    exact Weak.kp (ht := by repeat' (first | exact rfl | (refine Side.mk (oslE ?_ ?_) <;> (simp only [ln]; first | done | omega)) | constructor)) (ho := by repeat' (first | exact rfl | exact arrF (by simp) (by simp) | constructor)) (huo := by repeat' (first | exact rfl | exact plainL_map _ (fun _ => rfl) _ | constructor))
   intro h2
   have h2 : ¬ q a[i]! = true := by rw [hqi, h2]; simp
   rw [if_neg h2] at hfs
   subst hfs
   refine Trip.skip ?_
   exact Weak.kp (huo := by repeat' (first | exact rfl | exact plainL_map _ (fun _ => rfl) _ | constructor))
  refine Trip.R tblOk (by repeat' (first | exact rfl | ((with_reducible refine Side.mk ?_); omega) | constructor)) ?_
  exact ⟨i + 1, by first | omega | (dsimp only at *; omega), by first | omega | (dsimp only at *; omega), Weak.kp (ht := by repeat' (first | exact rfl | (rw [hF]; rfl) | constructor)) (ho := by repeat' (first | exact rfl | (rw [hF]; rfl) | constructor)) (huo := by repeat' (first | exact rfl | exact plainL_map _ (fun _ => rfl) _ | constructor))⟩
 intro h
 have h : i = a.length := by simp at h; omega
 subst h
 rw [filtN_all]
 generalize a.filter q = F at *
 refine Trip.exit (Trip.sr tblOk ?_)
 refine Trip.ret (rt1 [900] (hc := by repeat' (first | exact rfl | exact plainL_map _ (fun _ => rfl) _ | (refine Side.mk ?_; simp only [ln]; first | done | omega) | constructor)))
end Go.Proofs.Tryz
namespace Go.Graft
def pre (x : Str) : List Str → List Str
 | [] => []
 | y :: ys => (x ++ y) :: ys
def splitC (c : UInt8) : Str → List Str
 | [] => [[]]
 | b :: r => if b = c then [] :: splitC c r else pre [b] (splitC c r)
theorem pre_nil (l : List Str) : pre [] l = l := by cases l <;> rfl
theorem pre_pre (x y : Str) (l : List Str) : pre x (pre y l) = pre (x ++ y) l := by cases l <;> simp [pre]
theorem splitC_at (c : UInt8) (s : Str) (i : Nat) (h : i < s.length) : splitC c (s.drop i) = if s.getD i 0 = c then [] :: splitC c (s.drop (i + 1)) else pre [s.getD i 0] (splitC c (s.drop (i + 1))) := by
 rw [List.drop_eq_getElem_cons h, splitC]
 have : s.getD i 0 = s[i] := by simp [List.getD_eq_getElem?_getD, h]
 rw [this]
theorem pre_length (x : Str) (l : List Str) : (pre x l).length = l.length := by cases l <;> rfl
theorem splitC_length (c : UInt8) : ∀ s : Str, 1 ≤ (splitC c s).length ∧ (splitC c s).length ≤ s.length + 1
 | [] => by simp [splitC]
 | b :: r => by
  have := splitC_length c r
  simp only [splitC]
  split
  ·simp; omega
  ·rw [pre_length]; simp; omega
theorem splitC_mem_len (c : UInt8) : ∀ (s : Str) (x : Str), x ∈ splitC c s → x.length ≤ s.length
 | [], x, h => by simp [splitC] at h; subst h; simp
 | b :: r, x, h => by
  have ih := splitC_mem_len c r
  simp only [splitC] at h
  split at h
  ·simp at h
   rcases h with rfl | h
   ·simp
   ·have := ih x h; simp; omega
  ·cases hs : splitC c r with
   | nil => rw [hs] at h; simp [pre] at h
   | cons y ys =>
    rw [hs] at h
    simp [pre] at h
    rcases h with rfl | h
    ·have := ih y (by rw [hs]; simp); simp; omega
    ·have := ih x (by rw [hs]; simp [h]); simp; omega
theorem splitC_mem_ne (c : UInt8) : ∀ (s : Str) (x : Str), x ∈ splitC c s → c ∉ x
 | [], x, h => by simp [splitC] at h; subst h; simp
 | b :: r, x, h => by
  have ih := splitC_mem_ne c r
  simp only [splitC] at h
  split at h
  ·simp at h
   rcases h with rfl | h
   ·simp
   ·exact ih x h
  ·rename_i hb
   cases hs : splitC c r with
   | nil => rw [hs] at h; simp [pre] at h
   | cons y ys =>
    rw [hs] at h
    simp [pre] at h
    rcases h with rfl | h
    ·have := ih y (by rw [hs]; simp)
     simp [this]
     exact fun e => hb e.symm
    ·exact ih x (by rw [hs]; simp [h])
theorem index_one_cons (b c : UInt8) (r : Str) : Lib.index (b :: r) [c] = if b = c then 0 else (if Lib.index r [c] = -1 then -1 else Lib.index r [c] + 1) := by
 rw [Lib.index]
 by_cases h : b = c
 ·subst h; simp [List.isPrefixOf]
 ·have hp : ([c] : List UInt8).isPrefixOf (b :: r) = false := by simp [List.isPrefixOf, Ne.symm h]
  rw [hp, if_neg h]
  simp only [beq_iff_eq, Bool.false_eq_true, if_false]
theorem index_one (c : UInt8) : ∀ s : Str, Lib.index s [c] = Lib.indexByte s c
 | [] => by simp [Lib.index, Lib.indexByte]
 | b :: r => by
  rw [index_one_cons, Lib.indexByte, index_one c r]
  simp only [beq_iff_eq]
theorem split_eq (c : UInt8) : ∀ s : Str, Lib.split s [c] = splitC c s
 | [] => by simp [Lib.split, splitC, Lib.splitK, Lib.count_miss (show Lib.index [] [c] = -1 by simp [Lib.index])]
 | b :: r => by
  have ih := split_eq c r
  rw [Lib.split] at ih ⊢
  simp only [splitC]
  by_cases h : b = c
  ·subst h
   have hix : Lib.index (b :: r) [b] = ((0 : Nat) : Int) := by rw [index_one_cons, if_pos rfl]; rfl
   have hcnt := Lib.count_hit (s := b :: r) (sub := [b]) (by simp) hix
   simp only [if_true]
   rw [hcnt, Nat.add_comm, Lib.splitK, hix]
   simp [ih]
  ·rw [if_neg h]
   by_cases hm : Lib.index r [c] = -1
   ·have hm2 : Lib.index (b :: r) [c] = -1 := by rw [index_one_cons, if_neg h, if_pos hm]
    rw [Lib.count_miss hm] at ih
    rw [Lib.count_miss hm2, Lib.splitK, ← ih, Lib.splitK]
    rfl
   ·have hge := Lib.index_ge r [c]
    obtain ⟨j, hj⟩ : ∃ j : Nat, Lib.index r [c] = j := ⟨(Lib.index r [c]).toNat, by omega⟩
    have hix : Lib.index (b :: r) [c] = ((j + 1 : Nat) : Int) := by rw [index_one_cons, if_neg h, if_neg hm, hj]; omega
    rw [Lib.count_hit (by simp) hj] at ih
    rw [Lib.count_hit (by simp) hix, Nat.add_comm, Lib.splitK, hix]
    rw [Nat.add_comm, Lib.splitK, hj] at ih
    have e1 : ¬ (((j : Nat) : Int) == -1) = true := by simp
    have e2 : ¬ (((j + 1 : Nat) : Int) == -1) = true := by simp; omega
    rw [if_neg e1] at ih
    rw [if_neg e2, ← ih]
    simp only [List.length_singleton, Int.toNat_natCast, Nat.add_zero, List.take_succ_cons, List.drop_succ_cons, pre, List.singleton_append]
end Go.Graft
namespace Go.Graft
open Go.Sym
def pathOk (p : Str) : Bool := decide (p ≠ []) && decide ((p.length : Int) ≤ 255) && (splitC 47 p).all partOk && decide (((splitC 47 p).length : Int) ≤ 16)
theorem part_same {c : UInt8} {s x : Str} (hc : c = 47) (h : x ∈ splitC c s) : partOk2 x = partOk x := by
 have hn := splitC_mem_ne c s x h
 subst hc
 have e : (x.all fun c => decide (32 ≤ c.toNat) && !decide ((c.toNat : Int) = 47)) = x.all fun c => decide (32 ≤ c.toNat) := by
  rw [Bool.eq_iff_iff, List.all_eq_true, List.all_eq_true]
  constructor
  ·intro h y hy
   have := h y hy
   simp only [Bool.and_eq_true] at this
   exact this.1
  ·intro h y hy
   have h1 := h y hy
   have h2 : ¬ ((y.toNat : Int) = 47) := fun e => hn (by
    have : y = 47 := UInt8.toNat.inj (by show y.toNat = 47; omega)
    rw [← this]; exact hy)
   simp [h1, h2]
 rw [partOk2, partOk, e]
structure En where
 mode : Int
 name : Str
 id : Str
 deriving Inhabited
@[reducible] def En.pv (x : En) : PV := entPV x.mode x.name x.id
def En.key (x : En) : Str := keyE x.mode x.name
def mayE (x : En) : Bool := decide (1 ≤ x.mode) && decide (x.mode ≤ 4) && pathOk x.name && decide (Lib.indexByte x.name 47 < 0) && isId x.id
def firstE (f : Nat → Int) : Nat → Int
 | 0 => 0
 | n + 1 => if firstE f n = 0 then f n else firstE f n
theorem firstE_zero {f : Nat → Int} : ∀ {n : Nat}, (∀ j, j < n → f j = 0) → firstE f n = 0
 | 0, _ => rfl
 | n + 1, h => by rw [firstE, if_pos (firstE_zero fun j hj => h j (by omega)), h n (by omega)]
theorem firstE_stop {f : Nat → Int} {i : Nat} : ∀ {n : Nat}, i < n → (∀ j, j < i → f j = 0) → f i ≠ 0 → firstE f n = f i
 | 0, h, _, _ => by omega
 | n + 1, h, hj, hi => by
  by_cases e : i = n
  ·subst e; rw [firstE, if_pos (firstE_zero hj)]
  ·rw [firstE, firstE_stop (by omega) hj hi, if_neg hi]
def entE (l : List En) (i : Nat) : Int :=
 if mayE l[i]! = false then 1 else if 0 < i ∧ Op.bytesLess l[i - 1]!.key l[i]!.key = false then 150 else if hasS ((l.take i).map En.name) l[i]!.name = true then 6 else 0
def checkE (l : List En) : Int := if 1024 < l.length then 4 else firstE (entE l) l.length
def modeOf (s : Str) : Int :=
 if Lib.hasPrefix s (modeD 1) then 1 else if Lib.hasPrefix s (modeD 2) then 2 else if Lib.hasPrefix s (modeD 3) then 3 else if Lib.hasPrefix s (modeD 4) then 4
 else if Lib.hasPrefix (modeD 1) s || Lib.hasPrefix (modeD 2) s || Lib.hasPrefix (modeD 3) s || Lib.hasPrefix (modeD 4) s then -1 else 0
def oneE (s : Str) : Int × En × Str :=
 if modeOf s = -1 then (3, ⟨0, [], []⟩, []) else if modeOf s = 0 then (2, ⟨0, [], []⟩, []) else
 let r := s.drop (modeD (modeOf s)).length
 if Lib.indexByte r 0 < 0 then (3, ⟨0, [], []⟩, []) else
 let k := (Lib.indexByte r 0).toNat
 if r.length < k + 21 then (3, ⟨0, [], []⟩, []) else (0, ⟨modeOf s, r.take k, hexOf ((r.drop (k + 1)).take 20)⟩, r.drop (k + 21))
def parseA : Nat → Str → List En → Int × List En
 | 0, _, acc => (0, acc)
 | f + 1, s, acc => if s = [] then (0, acc) else if (oneE s).1 ≠ 0 then ((oneE s).1, []) else parseA f (oneE s).2.2 (acc ++ [(oneE s).2.1])
def entsA (s : Str) (acc : List En) : Int × List En := parseA s.length s acc
theorem oneE_short {s : Str} (h : (oneE s).1 = 0) : (oneE s).2.2.length < s.length := by
 simp only [oneE] at h ⊢
 split
 ·rename_i h1; rw [if_pos h1] at h; simp at h
 rename_i h1
 rw [if_neg h1] at h
 split
 ·rename_i h2; rw [if_pos h2] at h; simp at h
 rename_i h2
 rw [if_neg h2] at h
 split
 ·rename_i h3; rw [if_pos h3] at h; simp at h
 rename_i h3
 rw [if_neg h3] at h
 split
 ·rename_i h4; rw [if_pos h4] at h; simp at h
 rename_i h4
 simp only [List.length_drop] at h4 ⊢
 omega
theorem parseA_fuel : ∀ (f f' : Nat) (s : Str) (acc : List En), s.length ≤ f → s.length ≤ f' → parseA f s acc = parseA f' s acc
 | 0, 0, _, _, _, _ => rfl
 | 0, f' + 1, s, acc, h, _ => by
  have : s = [] := List.length_eq_zero_iff.1 (by omega)
  subst this; rfl
 | f + 1, 0, s, acc, _, h => by
  have : s = [] := List.length_eq_zero_iff.1 (by omega)
  subst this; rfl
 | f + 1, f' + 1, s, acc, h, h' => by
  rw [parseA, parseA]
  split
  ·rfl
  split
  ·rfl
  rename_i h0 h1
  have := oneE_short (s := s) (by simpa using h1)
  exact parseA_fuel f f' _ _ (by omega) (by omega)
theorem entsA_nil (acc : List En) : entsA [] acc = (0, acc) := rfl
theorem entsA_err {s : Str} {acc : List En} (h : s ≠ []) (h1 : (oneE s).1 ≠ 0) : entsA s acc = ((oneE s).1, []) := by
 rw [entsA]
 cases hl : s.length with
 | zero => exact absurd (List.length_eq_zero_iff.1 hl) h
 | succ f => rw [parseA, if_neg h, if_pos h1]
theorem entsA_one {s : Str} {acc : List En} (h : s ≠ []) (h1 : (oneE s).1 = 0) : entsA s acc = entsA (oneE s).2.2 (acc ++ [(oneE s).2.1]) := by
 have hs := oneE_short h1
 rw [entsA]
 cases hl : s.length with
 | zero => exact absurd (List.length_eq_zero_iff.1 hl) h
 | succ f => rw [parseA, if_neg h, if_neg (by simp [h1]), entsA]; exact parseA_fuel _ _ _ _ (by omega) (by omega)
def treeOf (s : Str) : Int × List En :=
 if (entsA s []).1 ≠ 0 then ((entsA s []).1, []) else if checkE (entsA s []).2 ≠ 0 then (checkE (entsA s []).2, []) else (0, (entsA s []).2)
end Go.Graft
namespace Go.Graft
open Go.Sym
def badD (c : UInt8) : Bool := decide ((c.toNat : Int) < 48) || decide (57 < (c.toNat : Int))
def valF (n : Nat) (c : UInt8) : Nat := 10 * n + (c.toNat - 48)
def valD (s : Str) : Nat := s.foldl valF 0
def numBad (s : Str) : Bool := decide ((s.length : Int) < 1) || decide (18 < (s.length : Int)) || (decide (1 < (s.length : Int)) && decide (((s.getD 0 0).toNat : Int) = 48))
def numOk (s : Str) : Bool := !numBad s && s.all fun c => !badD c
theorem numOk_bad {s : Str} (h : numBad s = true) : numOk s = false := by rw [numOk, h]; rfl
theorem numOk_false {s : Str} {i : Nat} (h : i < s.length) (hp : badD (s.getD i 0) = true) : numOk s = false := by
 rw [numOk, all_false (p := fun c => !badD c) h (by rw [hp]; rfl), Bool.and_false]
theorem numOk_true {s : Str} (hb : numBad s = false) (h : ∀ i, i < s.length → badD (s.getD i 0) = false) : numOk s = true := by
 rw [numOk, hb, all_true (p := fun c => !badD c) fun i hi => by rw [h i hi]; rfl]; rfl
theorem numOk_len {s : Str} (h : numOk s = true) : 1 ≤ s.length ∧ s.length ≤ 18 := by
 simp only [numOk, Bool.and_eq_true, Bool.not_eq_true', numBad, Bool.or_eq_false_iff, decide_eq_false_iff_not] at h
 omega
theorem numOk_all {s : Str} (h : numOk s = true) : ∀ c ∈ s, badD c = false := by
 simp only [numOk, Bool.and_eq_true] at h
 intro c hc
 have := (List.all_eq_true.1 h.2) c hc
 simpa using this
theorem dec_val : ∀ (s : Str) (a : Nat), (∀ c ∈ s, badD c = false) → Lib.decFrom a s = some (s.foldl valF a)
 | [], a, _ => rfl
 | b :: r, a, h => by
  have hb := h b (by simp)
  simp only [badD, Bool.or_eq_false_iff, decide_eq_false_iff_not] at hb
  have hd : Lib.digitVal b = some (b.toNat - 48) := by rw [Lib.digitVal, if_pos ⟨by omega, by omega⟩]
  simp only [Lib.decFrom, hd, List.foldl_cons]
  rw [dec_val r _ fun c hc => h c (by simp [hc])]
  rw [valF, Nat.mul_comm]
theorem atoi_val {s : Str} (h0 : s ≠ []) (h : ∀ c ∈ s, badD c = false) : Lib.atoi s = some ((valD s : Nat) : Int) := by
 cases s with
 | nil => exact absurd rfl h0
 | cons b r =>
  have hb := h b (by simp)
  simp only [badD, Bool.or_eq_false_iff, decide_eq_false_iff_not] at hb
  have e1 : (b == 45) = false := by
   have : b ≠ 45 := by rintro rfl; exact absurd hb.1 (by decide)
   simpa using this
  have e2 : (b == 43) = false := by
   have : b ≠ 43 := by rintro rfl; exact absurd hb.1 (by decide)
   simpa using this
  have e3 : Lib.decNat (b :: r) = some (valD (b :: r)) := by rw [Lib.decNat, dec_val _ _ h]; rfl
  simp only [Lib.atoi, e1, e2, e3]
  rfl
theorem valD_bound (s : Str) (h : ∀ c ∈ s, badD c = false) : ∀ a : Nat, s.foldl valF a < (a + 1) * 10 ^ s.length := by
 induction s with
 | nil => intro a; simp
 | cons b r ih =>
  intro a
  have hb := h b (by simp)
  simp only [badD, Bool.or_eq_false_iff, decide_eq_false_iff_not] at hb
  have := ih (fun c hc => h c (by simp [hc])) (valF a b)
  simp only [List.foldl_cons, List.length_cons]
  have h1 : valF a b + 1 ≤ (a + 1) * 10 := by rw [valF]; omega
  calc _ < (valF a b + 1) * 10 ^ r.length := this
   _ ≤ ((a + 1) * 10) * 10 ^ r.length := Nat.mul_le_mul_right _ h1
   _ = (a + 1) * 10 ^ (r.length + 1) := by rw [Nat.pow_succ, Nat.mul_assoc, Nat.mul_comm 10]
theorem valD_lt {s : Str} (h : ∀ c ∈ s, badD c = false) (k : Nat) (hk : s.length ≤ k) : valD s < 10 ^ k := by
 have := valD_bound s h 0
 have h2 : 10 ^ s.length ≤ 10 ^ k := Nat.pow_le_pow_right (by omega) hk
 rw [valD]; omega
theorem valD_take (s : Str) (i : Nat) (h : i < s.length) : valD (s.take (i + 1)) = valF (valD (s.take i)) (s.getD i 0) := by
 rw [take_snoc s i h, valD, List.foldl_append, getD_bang]; rfl
def zonBad (s : Str) : Bool := decide (¬ (s.length : Int) = 5) || (decide (¬ ((s.getD 0 0).toNat : Int) = 43) && decide (¬ ((s.getD 0 0).toNat : Int) = 45)) || decide (s = [45, 48, 48, 48, 48])
def zonM (s : Str) : Int := valD (s.drop 3)
def zonH (s : Str) : Int := valD ((s.drop 1).take 2)
def zonOk (s : Str) : Bool := !zonBad s && (s.drop 1).all (fun c => !badD c) && decide (zonM s < 60)
def zonV (s : Str) : Int := if zonOk s = false then 0 else if ((s.getD 0 0).toNat : Int) = 45 then -60 * zonH s - zonM s else 60 * zonH s + zonM s
def zeroPer : Per := ⟨[], [], 0, 0⟩
@[reducible] def Per.pv (p : Per) : PV := perPV p.name p.mail p.time p.zone
def angled (s : Str) : Bool := s.any fun c => decide (c = 60) || decide (c = 62)
def whoOf (s : Str) : Int × Per :=
 if ((Lib.cut s [32, 60]).2.2 && (Lib.cut (Lib.cut s [32, 60]).2.1 [62, 32]).2.2 && (Lib.cut (Lib.cut (Lib.cut s [32, 60]).2.1 [62, 32]).2.1 [32]).2.2 && numOk (Lib.cut (Lib.cut (Lib.cut s [32, 60]).2.1 [62, 32]).2.1 [32]).1 && zonOk (Lib.cut (Lib.cut (Lib.cut s [32, 60]).2.1 [62, 32]).2.1 [32]).2.1 && !angled ((Lib.cut s [32, 60]).1 ++ (Lib.cut (Lib.cut s [32, 60]).2.1 [62, 32]).1)) = false then (2, zeroPer)
 else if perOk (Lib.cut s [32, 60]).1 (Lib.cut (Lib.cut s [32, 60]).2.1 [62, 32]).1 (valD (Lib.cut (Lib.cut (Lib.cut s [32, 60]).2.1 [62, 32]).2.1 [32]).1) (zonV (Lib.cut (Lib.cut (Lib.cut s [32, 60]).2.1 [62, 32]).2.1 [32]).2.1) = false then (1, zeroPer)
 else (0, ⟨(Lib.cut s [32, 60]).1, (Lib.cut (Lib.cut s [32, 60]).2.1 [62, 32]).1, valD (Lib.cut (Lib.cut (Lib.cut s [32, 60]).2.1 [62, 32]).2.1 [32]).1, zonV (Lib.cut (Lib.cut (Lib.cut s [32, 60]).2.1 [62, 32]).2.1 [32]).2.1⟩)
def findS (s t : Str) (a : Nat) : Int := if Lib.index (s.drop a) t < 0 then -1 else a + Lib.index (s.drop a) t
theorem findS_none {s t : Str} {a : Nat} (ht : t ≠ []) (h : ∀ j, a ≤ j → j + t.length ≤ s.length → (s.drop j).take t.length ≠ t) : findS s t a = -1 := by
 rw [findS, Lib.index_none]; rfl
 intro j hj
 cases ho : Lib.occAt (s.drop a) t j with
 | false => rfl
 | true =>
  exfalso
  have hr := (Lib.occAt_room ho).resolve_right ht
  rw [Lib.occAt_iff_take _ _ _ hr, List.drop_drop] at ho
  rw [List.length_drop] at hr hj
  by_cases hja : a ≤ s.length
  ·exact h (a + j) (by omega) (by omega) (by simpa using ho)
  ·have : t.length = 0 := by omega
   exact ht (List.length_eq_zero_iff.1 this)
theorem findS_some {s t : Str} {a i : Nat} (ha : a ≤ i) (hi : i + t.length ≤ s.length) (h : ∀ j, a ≤ j → j < i → (s.drop j).take t.length ≠ t) (hc : (s.drop i).take t.length = t) : findS s t a = (i : Int) := by
 have := Lib.index_first (s := s.drop a) (sub := t) (i := i - a) (by rw [List.length_drop]; omega) (by
  rw [Lib.occAt_iff_take _ _ _ (by rw [List.length_drop]; omega), List.drop_drop, show a + (i - a) = i by omega, hc]; simp) (fun j hj => by
  rw [Lib.occAt_iff_take _ _ _ (by rw [List.length_drop]; omega), List.drop_drop]
  simpa using h (a + j) (by omega) (by omega))
 rw [findS, this, if_neg (by omega)]; omega
theorem findS_cases (s t : Str) (a : Nat) : (findS s t a = -1 ∧ Lib.index (s.drop a) t = -1) ∨ ∃ i : Nat, findS s t a = (i : Int) ∧ a ≤ i ∧ Lib.index (s.drop a) t = ((i - a : Nat) : Int) ∧ (a ≤ s.length → i + t.length ≤ s.length) := by
 have hge := Lib.index_ge (s.drop a) t
 by_cases h : Lib.index (s.drop a) t < 0
 ·exact .inl ⟨by rw [findS, if_pos h], by omega⟩
 ·right
  have hr := Lib.index_room (s.drop a) t (by omega)
  refine ⟨a + (Lib.index (s.drop a) t).toNat, by rw [findS, if_neg h]; omega, by omega, by omega, fun ha => ?_⟩
  rw [List.length_drop] at hr
  omega
end Go.Graft
namespace Go.Graft
open Go.Sym
def lineOk (s w : Str) : Bool := (Lib.cut s [10]).2.2 && Lib.hasPrefix (Lib.cut s [10]).1 w
def lineV (s w : Str) : Str := if lineOk s w then Lib.trimPrefix (Lib.cut s [10]).1 w else []
def lineR (s w : Str) : Str := if lineOk s w then (Lib.cut s [10]).2.1 else s
def failE (e x : Int) : Int := if e = 0 ∨ x = 2 then x else e
def kTree : Str := [116, 114, 101, 101, 32]
def kPar : Str := [112, 97, 114, 101, 110, 116, 32]
def kAut : Str := [97, 117, 116, 104, 111, 114, 32]
def kCom : Str := [99, 111, 109, 109, 105, 116, 116, 101, 114, 32]
def kObj : Str := [111, 98, 106, 101, 99, 116, 32]
def kTyp : Str := [116, 121, 112, 101, 32]
def kTag : Str := [116, 97, 103, 32]
def kTgr : Str := [116, 97, 103, 103, 101, 114, 32]
theorem cut_nl (s : Str) : ((Lib.cut s [10]).2.2 = true ∧ ∃ k : Nat, Lib.index s [10] = k ∧ k + 1 ≤ s.length ∧ (Lib.cut s [10]).1 = s.take k ∧ (Lib.cut s [10]).2.1 = s.drop (k + 1)) ∨ ((Lib.cut s [10]).2.2 = false ∧ Lib.index s [10] = -1) := by
 have hge := Lib.index_ge s [10]
 by_cases h : 0 ≤ Lib.index s [10]
 ·have hr := Lib.index_room s [10] h
  simp only [List.length_singleton] at hr
  refine .inl ⟨by rw [Lib.cut, if_pos h], (Lib.index s [10]).toNat, by omega, by omega, by rw [Lib.cut, if_pos h], by rw [Lib.cut, if_pos h]; rfl⟩
 ·exact .inr ⟨by rw [Lib.cut, if_neg h], by omega⟩
theorem lineR_short (s w : Str) (h : lineOk s w = true) : (lineR s w).length < s.length := by
 rw [lineR, if_pos h]
 rcases cut_nl s with ⟨_, k, _, h2, _, h4⟩ | ⟨h1, _⟩
 ·rw [h4, List.length_drop]; omega
 ·rw [lineOk, h1] at h; simp at h
theorem lineR_le (s w : Str) : (lineR s w).length ≤ s.length := by
 by_cases h : lineOk s w = true
 ·exact Nat.le_of_lt (lineR_short s w h)
 ·rw [lineR, if_neg h]; exact Nat.le_refl _
theorem lineV_le (s w : Str) : (lineV s w).length ≤ s.length := by
 by_cases h : lineOk s w = true
 ·rw [lineV, if_pos h]
  rcases cut_nl s with ⟨_, k, _, h2, h3, _⟩ | ⟨h1, _⟩
  ·rw [h3, Lib.trimPrefix]
   split
   ·simp only [List.length_drop, List.length_take]; omega
   ·simp only [List.length_take]; omega
  ·rw [lineOk, h1] at h; simp at h
 ·rw [lineV, if_neg h]; simp
structure Com where
 tree : Str
 pars : List Str
 aut : Per
 com : Per
 text : Str
def zeroCom : Com := ⟨[], [], zeroPer, zeroPer, []⟩
@[reducible] def Com.pv (nl : Bool) (c : Com) : PV := .agg [sV c.tree, .sl nl 1 (c.pars.map sV), sV c.aut.name, sV c.aut.mail, iV c.aut.time, iV c.aut.zone, sV c.com.name, sV c.com.mail, iV c.com.time, iV c.com.zone, sV c.text]
structure Tg where
 obj : Str
 kind : Int
 name : Str
 by' : Per
 text : Str
def zeroTg : Tg := ⟨[], 0, [], zeroPer, []⟩
@[reducible] def Tg.pv (t : Tg) : PV := .agg [sV t.obj, iV t.kind, sV t.name, sV t.by'.name, sV t.by'.mail, iV t.by'.time, iV t.by'.zone, sV t.text]
def Per.ok (p : Per) : Bool := perOk p.name p.mail p.time p.zone
def comBad (c : Com) : Bool := !isId c.tree || c.pars.any (fun p => !isId p) || !c.aut.ok || !c.com.ok || hasZ c.text
def dupE (l : List Str) (i : Nat) : Int := if hasS (l.take i) l[i]! = true then 6 else 0
def comE (c : Com) : Int := if comBad c then 1 else if (4096 : Int) < c.text.length ∨ (8 : Int) < c.pars.length then 4 else firstE (dupE c.pars) c.pars.length
def tagBad (s : Str) : Bool := s.any fun c => decide ((c.toNat : Int) ≤ 32)
def tagged (s : Str) : Bool := !tagBad s && decide ((1 : Int) ≤ s.length) && decide ((s.length : Int) ≤ 64)
def tgBad (t : Tg) : Bool := !isId t.obj || decide (wordK t.kind = []) || !tagged t.name || !t.by'.ok || hasZ t.text
def tgE (t : Tg) : Int := if tgBad t then 1 else if (4096 : Int) < t.text.length then 4 else 0
def idE (v : Str) (e : Int) : Int := if isId v then e else failE e 2
def lnE (s w : Str) (e : Int) : Int := if lineOk s w then e else failE e 2
def rdId (s : Str) (e : Int) (w : Str) : Int := idE (lineV s w) (lnE s w e)
def rdWho (s : Str) (e : Int) (w : Str) : Int := if (whoOf (lineV s w)).1 = 0 then lnE s w e else failE (lnE s w e) (whoOf (lineV s w)).1
def parsP : Nat → Str → Int → List Str → Str × Int × List Str
 | 0, s, e, l => (s, e, l)
 | f + 1, s, e, l => if e = 0 ∧ Lib.hasPrefix s kPar = true then parsP f (lineR s kPar) (rdId s e kPar) (l ++ [lineV s kPar]) else (s, e, l)
def parsOf (s : Str) (e : Int) : Str × Int × List Str := parsP (s.length + 1) s e []
def comP (s : Str) : Int × Com :=
 let s1 := lineR s kTree
 let e1 := rdId s 0 kTree
 let q := parsOf s1 e1
 let s2 := q.1
 let e2 := q.2.1
 let x := lineV s2 kAut
 let s3 := lineR s2 kAut
 let e3 := rdWho s2 e2 kAut
 let y := lineV s3 kCom
 let s4 := lineR s3 kCom
 let e4 := rdWho s3 e3 kCom
 let e5 := if lineV s4 [] = [] then lnE s4 [] e4 else failE (lnE s4 [] e4) 2
 let c : Com := ⟨lineV s kTree, q.2.2, (whoOf x).2, (whoOf y).2, lineR s4 []⟩
 let e6 := if e5 = 0 then comE c else e5
 if e6 = 0 then (0, c) else (e6, zeroCom)
def tgP (s : Str) : Int × Tg :=
 let s1 := lineR s kObj
 let e1 := rdId s 0 kObj
 let w := lineV s1 kTyp
 let s2 := lineR s1 kTyp
 let e2 := if kindW w = 0 then failE (lnE s1 kTyp e1) 2 else lnE s1 kTyp e1
 let s3 := lineR s2 kTag
 let e3 := lnE s2 kTag e2
 let x := lineV s3 kTgr
 let s4 := lineR s3 kTgr
 let e4 := rdWho s3 e3 kTgr
 let e5 := if lineV s4 [] = [] then lnE s4 [] e4 else failE (lnE s4 [] e4) 2
 let t : Tg := ⟨lineV s kObj, kindW w, lineV s2 kTag, (whoOf x).2, lineR s4 []⟩
 let e6 := if e5 = 0 then tgE t else e5
 if e6 = 0 then (0, t) else (e6, zeroTg)
def whoM (b : Bool) (x : Str) : Int := if b = false ∨ (whoOf x).1 = 2 then 0 else if (whoOf x).1 ≠ 0 then 1 else 2
def parsR : Nat → Str → List Str → Option (Str × List Str)
 | 0, s, l => some (s, l)
 | f + 1, s, l => if lineOk s kPar = true then (if isId (lineV s kPar) then parsR f (lineR s kPar) (l ++ [lineV s kPar]) else none) else some (s, l)
def comR (s : Str) : Int × Com :=
 if (lineOk s kTree && isId (lineV s kTree)) = false then (2, zeroCom) else
 match parsR ((lineR s kTree).length + 1) (lineR s kTree) [] with
 | none => (2, zeroCom)
 | some (s2, l) =>
  let x := lineV s2 kAut
  let s3 := lineR s2 kAut
  let y := lineV s3 kCom
  let s4 := lineR s3 kCom
  if (decide (whoM (lineOk s2 kAut) x = 0) || decide (whoM (lineOk s3 kCom) y = 0) || decide (s4 = []) || decide (¬ ((s4.getD 0 0).toNat : Int) = 10)) = true then (2, zeroCom)
  else if (decide (whoM (lineOk s2 kAut) x = 1) || decide (whoM (lineOk s3 kCom) y = 1)) = true then (1, zeroCom)
  else
   let c : Com := ⟨lineV s kTree, l, (whoOf x).2, (whoOf y).2, s4.drop 1⟩
   if comE c = 0 then (0, c) else (comE c, zeroCom)
def tgR (s : Str) : Int × Tg :=
 let s1 := lineR s kObj
 let s2 := lineR s1 kTyp
 let s3 := lineR s2 kTag
 let s4 := lineR s3 kTgr
 let x := lineV s3 kTgr
 if (!lineOk s kObj || !lineOk s1 kTyp || !lineOk s2 kTag || decide (whoM (lineOk s3 kTgr) x = 0) || !isId (lineV s kObj) || decide (kindW (lineV s1 kTyp) = 0) || decide (s4 = []) || decide (¬ ((s4.getD 0 0).toNat : Int) = 10)) = true then (2, zeroTg)
 else
  let t : Tg := ⟨lineV s kObj, kindW (lineV s1 kTyp), lineV s2 kTag, (whoOf x).2, s4.drop 1⟩
  if tgE t = 0 then (0, t) else (tgE t, zeroTg)
end Go.Graft
