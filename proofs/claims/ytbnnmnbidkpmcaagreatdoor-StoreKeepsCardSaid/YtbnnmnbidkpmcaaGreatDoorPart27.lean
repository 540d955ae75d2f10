/- A part of the proof: Gu, GHlv, Gv, Gw, GIt, Gx, Gy, Gz, GCmp, Gza, Gzb, Gzc, Gzd, Gze. -/
import Derived.Test.YtbnnmnbidkpmcaaGreatDoorPart26
set_option linter.unusedVariables false
set_option linter.unusedSimpArgs false
namespace Go.Proofs.Tryz
open Go Go.Sym Go.Graft
set_option maxRecDepth 20000
theorem cDigT (k : Int) : Ctr prog 144 [iV k] [] (sV (modeP k)) [] [] := by
 refine Ctr.enter tblOk func144 rfl (by decide) rfl (nt := 12) rfl rfl rfl rfl ?_
 refine Trip.sr tblOk ?_
 refine Trip.seq (Trip.sr tblOk ?_)
 refine Trip.block (Trip.sr tblOk ?_)
 apply Trip.cond (.tmp rfl)
 ·intro h
  have h : k = 1 := by simpa using h
  subst h
  refine Trip.sr tblOk ?_
  refine Trip.ret (rt1 [])
 intro h1
 have h1 : ¬ k = 1 := by simpa using h1
 refine Trip.sr tblOk ?_
 apply Trip.cond (.tmp rfl)
 ·intro h
  have h : k = 2 := by simpa using h
  subst h
  refine Trip.sr tblOk ?_
  refine Trip.ret (rt1 [])
 intro h2
 have h2 : ¬ k = 2 := by simpa using h2
 refine Trip.sr tblOk ?_
 apply Trip.cond (.tmp rfl)
 ·intro h
  have h : k = 3 := by simpa using h
  subst h
  refine Trip.sr tblOk ?_
  refine Trip.ret (rt1 [])
 intro h3
 have h3 : ¬ k = 3 := by simpa using h3
 refine Trip.sr tblOk ?_
 apply Trip.cond (.tmp rfl)
 ·intro h
  have h : k = 4 := by simpa using h
  subst h
  refine Trip.sr tblOk ?_
  refine Trip.ret (rt1 [])
 intro h4
 have h4 : ¬ k = 4 := by simpa using h4
 have e : modeP k = [] := by rw [modeP, if_neg h1, if_neg h2, if_neg h3, if_neg h4]
 rw [e]
 refine Trip.skip (Trip.sr tblOk ?_)
 refine Trip.ret (rt1 [])
theorem cZero (s : Str) (hs : s.length ≤ 1000000000000) : Ctr prog 105 [sV s] [] (bV (hasZ s)) [] [] := by
 refine Ctr.enter tblOk func105 rfl (by decide) rfl (nt := 14) rfl rfl rfl rfl ?_
 refine Trip.sr tblOk ?_
 refine Trip.seq (Trip.sr tblOk ?_)
 refine Trip.block ?_
 refine Trip.loop (fun (i : Nat) => ⟨[(0, sV s), (3, iV i)], []⟩) (fun (i : Nat) => i ≤ s.length ∧ ∀ j, j < i → zC (s.getD j 0) = false) (fun (i : Nat) => s.length - i) (0) (by exact ⟨Nat.zero_le _, fun j hj => absurd hj (by omega)⟩) Weak.kp ?_
 intro i hi
 obtain ⟨hi, hj⟩ := hi
 refine Trip.seq (Trip.sr tblOk ?_)
 apply Trip.cond (.tmp rfl)
 ·intro h
  have h : i < s.length := by simp at h; omega
  refine Trip.skip (Trip.seq (Trip.block (Trip.sR tblOk (by repeat' (first | exact rfl | ((with_reducible refine Side.mk ?_); omega) | constructor)) ?_)))
  apply Trip.cond (.tmp rfl)
  ·intro h2
   have h2 : zC (s.getD i 0) = true := h2
   rw [hasZ_true h h2]
   refine Trip.sr tblOk ?_
   refine Trip.ret (rt1 [] (hc := by repeat' (exact cvB (by simp only [List.length_map]))))
  intro h2
  have h2 : zC (s.getD i 0) = false := h2
  refine Trip.skip (Trip.R tblOk (by repeat' (first | exact rfl | ((with_reducible refine Side.mk ?_); omega) | constructor)) ?_)
  exact ⟨i + 1, by exact ⟨by omega, fun j h3 => (Nat.lt_succ_iff_lt_or_eq.1 h3).elim (hj j) (fun e => e ▸ h2)⟩, by first | omega | (dsimp only at *; omega), Weak.kp⟩
 intro h
 have h : i = s.length := by simp at h; omega
 subst h
 refine Trip.exit ?_
 rw [hasZ_false hj]
 refine Trip.sr tblOk ?_
 refine Trip.ret (rt1 [] (hc := by repeat' (exact cvB (by simp only [List.length_map]))))
theorem cHas06 (nl : Bool) (l : List Str) (x : Str) (hs : l.length ≤ 1000000000000) : Ctr prog 103 [.sl nl 1 (l.map sV), sV x] [] (bV (hasS l x)) [] [] := by
 refine Ctr.enter tblOk func103 rfl (by decide) rfl (nt := 18) rfl rfl rfl rfl ?_
 refine Trip.sr tblOk ?_
 refine Trip.seq (Trip.sr tblOk ?_)
 refine Trip.block ?_
 refine Trip.loop (fun (i : Nat) => ⟨[(0, .sl nl 1 (l.map sV)), (1, sV x), (5, iV i)], []⟩) (fun (i : Nat) => i ≤ l.length ∧ ∀ j, j < i → l[j]! ≠ x) (fun (i : Nat) => l.length - i) (0) (by exact ⟨Nat.zero_le _, fun j hj => absurd hj (by omega)⟩) Weak.kp ?_
 intro i hi
 obtain ⟨hi, hj⟩ := hi
 refine Trip.seq (Trip.sr tblOk ?_)
 apply Trip.cond (.tmp rfl)
 ·intro h
  have h : i < l.length := by simp at h; omega
  refine Trip.skip (Trip.seq (Trip.block (Trip.sR tblOk (by repeat' (first | exact rfl | exact idx_map _ _ _ (by show _ < _; first | omega | (simp only [List.length_map] at *; omega)) | ((with_reducible refine Side.mk ?_); (simp only [ln]; first | done | omega)) | constructor)) ?_)))
  apply Trip.cond (.tmp rfl)
  ·intro h2
   have h2 : l[i]! = x := by simpa using h2
   rw [hasS_true h h2]
   refine Trip.sr tblOk ?_
   refine Trip.ret (rt1 [] (hc := by repeat' (exact cvB (by simp only [List.length_map]))))
  intro h2
  have h2 : ¬ l[i]! = x := by simpa using h2
  refine Trip.skip (Trip.R tblOk (by repeat' (first | exact rfl | ((with_reducible refine Side.mk ?_); omega) | constructor)) ?_)
  exact ⟨i + 1, by exact ⟨by omega, fun j h3 => (Nat.lt_succ_iff_lt_or_eq.1 h3).elim (hj j) (fun e => e ▸ h2)⟩, by first | omega | (dsimp only at *; omega), Weak.kp⟩
 intro h
 have h : i = l.length := by simp at h; omega
 subst h
 refine Trip.exit ?_
 rw [hasS_false hj]
 refine Trip.sr tblOk ?_
 refine Trip.ret (rt1 [] (hc := by repeat' (exact cvB (by simp only [List.length_map]))))
end Go.Proofs.Tryz
namespace Go.Graft
def hv (less : Nat → Bool) : Nat → Nat → Nat → Nat
 | 0, lo, _ => lo
 | f + 1, lo, hi => if lo < hi then (if less ((lo + hi) / 2) then hv less f ((lo + hi) / 2 + 1) hi else hv less f lo ((lo + hi) / 2)) else lo
theorem hv_fuel (less : Nat → Bool) : ∀ (f f' lo hi : Nat), hi - lo ≤ f → hi - lo ≤ f' → hv less f lo hi = hv less f' lo hi
 | 0, 0, lo, hi, _, _ => rfl
 | 0, f' + 1, lo, hi, h, _ => by rw [hv, hv, if_neg (by omega)]
 | f + 1, 0, lo, hi, _, h => by rw [hv, hv, if_neg (by omega)]
 | f + 1, f' + 1, lo, hi, h, h' => by
  rw [hv, hv]
  split
  ·split
   ·exact hv_fuel less f f' _ _ (by omega) (by omega)
   ·exact hv_fuel less f f' _ _ (by omega) (by omega)
  ·rfl
def halve (less : Nat → Bool) (n : Nat) : Nat := hv less n 0 n
def hvAt (less : Nat → Bool) (lo hi : Nat) : Nat := hv less (hi - lo) lo hi
theorem hvAt_lt (less : Nat → Bool) (lo hi : Nat) (h : lo < hi) : hvAt less lo hi = if less ((lo + hi) / 2) then hvAt less ((lo + hi) / 2 + 1) hi else hvAt less lo ((lo + hi) / 2) := by
 rw [hvAt, hv_fuel less (hi - lo) (hi - lo + 1) lo hi (by omega) (by omega), hv, if_pos h]
 split
 ·exact hv_fuel less _ _ _ _ (by omega) (by omega)
 ·exact hv_fuel less _ _ _ _ (by omega) (by omega)
theorem hvAt_ge (less : Nat → Bool) (lo hi : Nat) (h : ¬ lo < hi) : hvAt less lo hi = lo := by
 rw [hvAt, show hi - lo = 0 by omega, hv]
theorem halve_eq (less : Nat → Bool) (n : Nat) : halve less n = hvAt less 0 n := by rw [halve, hvAt, Nat.sub_zero]
theorem hvAt_le (less : Nat → Bool) : ∀ (d lo hi : Nat), hi - lo = d → lo ≤ hi → lo ≤ hvAt less lo hi ∧ hvAt less lo hi ≤ hi := by
 intro d
 induction d using Nat.strongRecOn with
 | _ d ih =>
  intro lo hi hd hle
  by_cases h : lo < hi
  ·rw [hvAt_lt less lo hi h]
   split
   ·have := ih (hi - ((lo + hi) / 2 + 1)) (by omega) ((lo + hi) / 2 + 1) hi rfl (by omega)
    omega
   ·have := ih ((lo + hi) / 2 - lo) (by omega) lo ((lo + hi) / 2) rfl (by omega)
    omega
  ·rw [hvAt_ge less lo hi h]; omega
def spot (l : List Str) (x : Str) : Nat := halve (fun i => Op.bytesLess l[i]! x) l.length
end Go.Graft
namespace Go.Proofs.Tryz
open Go Go.Sym Go.Graft
set_option maxRecDepth 20000
theorem cSpot (nl : Bool) (l : List Str) (x : Str) (hs : l.length ≤ 1000000000000) : Ctr prog 64 [.sl nl 1 (l.map sV), sV x] [] (iV (spot l x)) [] [] := by
 have e0 : spot l x = hvAt (fun i => Op.bytesLess l[i]! x) 0 l.length := halve_eq _ _
 rw [e0]
 generalize hr : hvAt (fun i => Op.bytesLess l[i]! x) 0 l.length = r
 refine Ctr.enter tblOk func64 rfl (by decide) rfl (nt := 27) rfl rfl rfl rfl ?_
 refine Trip.sr tblOk ?_
 refine Trip.sr tblOk ?_
 refine Trip.seq (Trip.block ?_)
 refine Trip.loop (fun (i : Nat × Nat) => ⟨[(0, .sl nl 1 (l.map sV)), (1, sV x), (5, iV i.1), (6, iV i.2)], []⟩) (fun (i : Nat × Nat) => i.1 ≤ i.2 ∧ i.2 ≤ l.length ∧ hvAt (fun i => Op.bytesLess l[i]! x) i.1 i.2 = r) (fun (i : Nat × Nat) => i.2 - i.1) ((0, l.length)) (by exact ⟨Nat.zero_le _, Nat.le_refl _, hr⟩) (Weak.kp (ht := by repeat' (first | exact rfl | (refine vI ?_; first | omega | (simp; done) | (simp; omega) | (simp only [List.length_map] at *; omega)) | constructor))) ?_
 intro i hi
 obtain ⟨lo, hi2⟩ := i
 obtain ⟨h1, h2, h3⟩ := hi
 dsimp only at *
 refine Trip.seq (Trip.sr tblOk ?_)
 apply Trip.cond (.tmp rfl)
 ·intro h
  have h : lo < hi2 := by simp at h; omega
  rw [hvAt_lt _ _ _ h] at h3
  have em : ((lo : Int) + (hi2 : Int)) / 2 = (((lo + hi2) / 2 : Nat) : Int) := by omega
  have hm1 : lo ≤ (lo + hi2) / 2 := by omega
  have hm2 : (lo + hi2) / 2 < hi2 := by omega
  refine Trip.skip (Trip.block ?_)
  refine Trip.rk ⟨[(0, .sl nl 1 (l.map sV)), (1, sV x), (5, iV lo), (6, iV hi2), (7, iV (((lo + hi2) / 2 : Nat) : Int))], []⟩ tblOk (by repeat' (first | exact rfl | ((with_reducible refine Side.mk ?_); omega) | constructor)) Weak.kp ?_
  generalize (lo + hi2) / 2 = m at *
  refine Trip.sR tblOk (by repeat' (first | exact rfl | exact idx_map _ _ _ (by show _ < _; first | omega | (simp only [List.length_map] at *; omega)) | ((with_reducible refine Side.mk ?_); (simp only [ln]; first | done | omega)) | constructor)) ?_
  apply Trip.cond (.tmp rfl)
  ·intro h4
   have h4 : Op.bytesLess l[m]! x = true := by simpa using h4
   rw [if_pos h4] at h3
   refine Trip.R tblOk (by repeat' (first | exact rfl | ((with_reducible refine Side.mk ?_); omega) | constructor)) ?_
   exact ⟨(m + 1, hi2), by exact ⟨by omega, h2, h3⟩, by first | omega | (dsimp only at *; omega), Weak.kp⟩
  intro h4
  have h4 : ¬ Op.bytesLess l[m]! x = true := by
   have : Op.bytesLess l[m]! x = false := by simpa using h4
   rw [this]; simp
  rw [if_neg h4] at h3
  refine Trip.r tblOk ?_
  exact ⟨(lo, m), by exact ⟨by omega, by omega, h3⟩, by first | omega | (dsimp only at *; omega), Weak.kp⟩
 intro h
 have h : ¬ lo < hi2 := by simp at h; omega
 rw [hvAt_ge _ _ _ h] at h3
 subst h3
 refine Trip.exit (Trip.sr tblOk ?_)
 refine Trip.ret (rt1 [])
end Go.Proofs.Tryz
namespace Go.Proofs.Tryz
open Go Go.Sym Go.Graft
set_option maxRecDepth 20000
def holdsS (l : List Str) (x : Str) : Bool := decide (((spot l x : Nat) : Int) < (l.length : Int)) && decide (l[((spot l x : Nat) : Int).toNat]! = x)
theorem cHolds (nl : Bool) (l : List Str) (x : Str) (hs : l.length ≤ 1000000000000) : Ctr prog 32 [.sl nl 1 (l.map sV), sV x] [] (bV (holdsS l x)) [] [] := by
 have c := cSpot nl l x hs
 have e : holdsS l x = (decide (((spot l x : Nat) : Int) < (l.length : Int)) && decide (l[((spot l x : Nat) : Int).toNat]! = x)) := rfl
 rw [e]
 generalize spot l x = p at *
 refine Ctr.enter tblOk func32 rfl (by decide) rfl (nt := 21) rfl rfl rfl rfl ?_
 refine Trip.sr tblOk ?_
 refine Trip.sR tblOk (by repeat' (first | exact rfl | (apply Rule.sem; intro hγ; with_reducible apply F_call0 (x := .func 64) (B := []) hγ (hspec := c)) | ((with_reducible refine Side.mk ?_); exact .inl rfl) | constructor)) ?_
 refine Trip.sR tblOk (by repeat' (first | exact rfl | (apply Rule.under tblOk; intro hγ; with_reducible apply Rule.indexAddr) | exact idx_map _ _ _ (by have h2 := hγ; simp only [gpick, cond_true, cond_false, decide_eq_true_eq, Bool.and_eq_true, Bool.or_eq_true, Bool.not_eq_true', Bool.not_eq_false', Bool.or_eq_false_iff, decide_eq_false_iff_not, List.length_map] at h2; show _ < _; omega) | ((with_reducible refine Side.mk ?_); first | exact fun h => h | exact fun _ h => h | exact fun _ => hγ | (have h2 := hγ; simp only [gpick, cond_true, cond_false, decide_eq_true_eq, Bool.and_eq_true, Bool.or_eq_true, Bool.not_eq_true', Bool.not_eq_false', Bool.or_eq_false_iff, decide_eq_false_iff_not, List.length_map] at h2; (try simp only [List.length_map]); omega)) | constructor)) ?_
 refine Trip.ret (rt1 [] (hc := by repeat' (exact cvB (by first | rfl | simp))))
end Go.Proofs.Tryz
namespace Go.Graft
open Go.Sym
structure It where
 id : Str
 kind : Int
 body : Str
 deriving Inhabited
@[reducible] def It.pv (x : It) : PV := .agg [sV x.id, iV x.kind, sV x.body]
def place (l : List It) (x : Str) : Nat := halve (fun i => Op.bytesLess l[i]!.id x) l.length
def placed (l : List It) (x : Str) : Bool := decide (((place l x : Nat) : Int) < (l.length : Int)) && decide (l[((place l x : Nat) : Int).toNat]!.id = x)
end Go.Graft
namespace Go.Proofs.Tryz
open Go Go.Sym Go.Graft
set_option maxRecDepth 20000
theorem cPlace2 (nl : Bool) (l : List It) (x : Str) (hs : l.length ≤ 1000000000) : Ctr prog 47 [.sl nl 3 (l.map It.pv), sV x] [] (.tup [iV (place l x), bV (placed l x)]) [] [] := by
 have e : placed l x = (decide (((place l x : Nat) : Int) < (l.length : Int)) && decide (l[((place l x : Nat) : Int).toNat]!.id = x)) := rfl
 have e0 : place l x = hvAt (fun i => Op.bytesLess l[i]!.id x) 0 l.length := halve_eq _ _
 rw [e, e0]
 generalize hr : hvAt (fun i => Op.bytesLess l[i]!.id x) 0 l.length = r
 refine Ctr.enter tblOk func47 rfl (by decide) rfl (nt := 42) rfl rfl rfl rfl ?_
 refine Trip.sr tblOk ?_
 refine Trip.sr tblOk ?_
 refine Trip.seq (Trip.block ?_)
 refine Trip.loop (fun (i : Nat × Nat) => ⟨[(0, .sl nl 3 (l.map It.pv)), (1, sV x), (6, iV i.1), (7, iV i.2)], []⟩) (fun (i : Nat × Nat) => i.1 ≤ i.2 ∧ i.2 ≤ l.length ∧ hvAt (fun i => Op.bytesLess l[i]!.id x) i.1 i.2 = r) (fun (i : Nat × Nat) => i.2 - i.1) ((0, l.length)) (by exact ⟨Nat.zero_le _, Nat.le_refl _, hr⟩) (Weak.kp (ht := by repeat' (first | exact rfl | (refine vI ?_; first | omega | (simp; done) | (simp; omega) | (simp only [List.length_map] at *; omega)) | constructor))) ?_
 intro i hi
 obtain ⟨lo, hi2⟩ := i
 obtain ⟨h1, h2, h3⟩ := hi
 dsimp only at *
 refine Trip.seq (Trip.sr tblOk ?_)
 apply Trip.cond (.tmp rfl)
 ·intro h
  have h : lo < hi2 := by simp at h; omega
  rw [hvAt_lt _ _ _ h] at h3
  have em : ((lo : Int) + (hi2 : Int)) / 2 = (((lo + hi2) / 2 : Nat) : Int) := by omega
  have hm1 : lo ≤ (lo + hi2) / 2 := by omega
  have hm2 : (lo + hi2) / 2 < hi2 := by omega
  refine Trip.skip (Trip.block ?_)
  refine Trip.rk ⟨[(0, .sl nl 3 (l.map It.pv)), (1, sV x), (6, iV lo), (7, iV hi2), (8, iV (((lo + hi2) / 2 : Nat) : Int))], []⟩ tblOk (by repeat' (first | exact rfl | ((with_reducible refine Side.mk ?_); omega) | constructor)) Weak.kp ?_
  generalize (lo + hi2) / 2 = m at *
  refine Trip.sR tblOk (by repeat' (first | exact rfl | exact idx_map _ _ _ (by show _ < _; first | omega | (simp only [List.length_map] at *; omega)) | ((with_reducible refine Side.mk ?_); (simp only [ln]; first | done | omega)) | constructor)) ?_
  apply Trip.cond (.tmp rfl)
  ·intro h4
   have h4 : Op.bytesLess l[m]!.id x = true := by simpa using h4
   rw [if_pos h4] at h3
   refine Trip.R tblOk (by repeat' (first | exact rfl | ((with_reducible refine Side.mk ?_); omega) | constructor)) ?_
   exact ⟨(m + 1, hi2), by exact ⟨by omega, h2, h3⟩, by first | omega | (dsimp only at *; omega), Weak.kp⟩
  intro h4
  have h4 : ¬ Op.bytesLess l[m]!.id x = true := by
   have : Op.bytesLess l[m]!.id x = false := by simpa using h4
   rw [this]; simp
  rw [if_neg h4] at h3
  refine Trip.r tblOk ?_
  exact ⟨(lo, m), by exact ⟨by omega, by omega, h3⟩, by first | omega | (dsimp only at *; omega), Weak.kp⟩
 intro h
 have h : ¬ lo < hi2 := by simp at h; omega
 rw [hvAt_ge _ _ _ h] at h3
 subst h3
 refine Trip.exit (Trip.sD tblOk mixed (by repeat' (first | exact rfl | (apply Rule.under tblOk; intro hγ; with_reducible apply Rule.indexAddr) | exact idx_map _ _ _ (by have h2 := hγ; simp only [gpick, cond_true, cond_false, decide_eq_true_eq, Bool.and_eq_true, Bool.or_eq_true, Bool.not_eq_true', Bool.not_eq_false', Bool.or_eq_false_iff, decide_eq_false_iff_not, List.length_map] at h2; show _ < _; omega) | ((with_reducible refine Side.mk ?_); first | exact fun h => h | exact fun _ h => h | exact fun _ => hγ | (have h2 := hγ; simp only [gpick, cond_true, cond_false, decide_eq_true_eq, Bool.and_eq_true, Bool.or_eq_true, Bool.not_eq_true', Bool.not_eq_false', Bool.or_eq_false_iff, decide_eq_false_iff_not, List.length_map] at h2; (try simp only [List.length_map]); omega)) | constructor)) ?_)
 refine Trip.ret (rt2 [] (hd := by repeat' (exact cvB (by first | rfl | simp))))
end Go.Proofs.Tryz
namespace Go.Proofs.Tryz
open Go Go.Sym Go.Graft
set_option maxRecDepth 20000
theorem cHas17 (nl : Bool) (l : List It) (x : Str) (hs : l.length ≤ 1000000000) : Ctr prog 66 [.agg [.sl nl 3 (l.map It.pv)], sV x] [] (bV (placed l x)) [] [] := by
 have c := cPlace2 nl l x hs
 generalize place l x = p at *
 generalize placed l x = q at *
 refine Ctr.enter tblOk func66 rfl (by decide) rfl (nt := 15) rfl rfl rfl rfl ?_
 refine Trip.sr tblOk ?_
 refine Trip.sR tblOk (by repeat' (first | exact rfl | (apply Rule.sem; intro hγ; with_reducible apply F_call0 (x := .func 47) (B := []) hγ (hspec := c)) | ((with_reducible refine Side.mk ?_); exact .inl rfl) | constructor)) ?_
 refine Trip.sr tblOk ?_
 refine Trip.ret (rt1 [] (hc := by repeat' (exact cvB (by simp only [List.length_map]))))
theorem cGet17 (nl : Bool) (l : List It) (x : Str) (hs : l.length ≤ 1000000000) : Ctr prog 21 [.agg [.sl nl 3 (l.map It.pv)], sV x] [] (.tup [objPV (if placed l x then l[place l x]!.kind else 0) (if placed l x then l[place l x]!.body else []), iV (if placed l x then 0 else 5)]) [] [] := by
 have c := cPlace2 nl l x hs
 have hlt : placed l x = true → place l x < l.length := by
  intro h
  simp only [placed, Bool.and_eq_true, decide_eq_true_eq] at h
  omega
 generalize place l x = p at *
 generalize placed l x = q at *
 refine Ctr.enter tblOk func21 rfl (by decide) rfl (nt := 31) rfl rfl rfl rfl ?_
 refine Trip.sr tblOk ?_
 refine Trip.sR tblOk (by repeat' (first | exact rfl | (apply Rule.sem; intro hγ; with_reducible apply F_call0 (x := .func 47) (B := []) hγ (hspec := c)) | ((with_reducible refine Side.mk ?_); exact .inl rfl) | constructor)) ?_
 refine Trip.seq (Trip.sr tblOk ?_)
 apply Trip.cond (.tmp rfl)
 ·intro h
  have h : q = false := by simpa using h
  subst h
  refine Trip.sr tblOk ?_
  refine Trip.ret (rt2 [])
 intro h
 have h : q = true := by simpa using h
 subst h
 have hlt := hlt rfl
 simp only [if_true]
 refine Trip.skip (Trip.sD tblOk mixed (by repeat' (first | exact rfl | exact idx_map _ _ _ (by show _ < _; first | omega | (simp only [List.length_map] at *; omega)) | ((with_reducible refine Side.mk ?_); (simp only [ln]; first | done | omega)) | constructor)) ?_)
 refine Trip.ret (rt2 [])
end Go.Proofs.Tryz
namespace Go.Proofs.Tryz
open Go Go.Sym Go.Graft
set_option maxRecDepth 20000
theorem cPlaceFn (x : It) (id : Str) : Ctr prog 76 [x.pv, sV id] [] (iV (Lib.compareBytes x.id id)) [] [] := by
 have c := sCompare x.id id
 generalize Lib.compareBytes x.id id = r at *
 refine Ctr.enter tblOk func76 rfl (by decide) rfl (nt := 9) rfl rfl rfl rfl ?_
 refine Trip.sr tblOk ?_
 refine Trip.sR tblOk (by repeat' (first | exact rfl | (apply Rule.sem; intro hγ; with_reducible apply F_call0 (x := .func 77) (B := []) hγ (hspec := c)) | ((with_reducible refine Side.mk ?_); exact .inl rfl) | constructor)) ?_
 refine Trip.ret (rt1 [])
end Go.Proofs.Tryz
namespace Go.Graft
theorem cmp_eq : ∀ a b : Str, (Lib.compareBytes a b = 0 ↔ a = b) ∧ (Lib.compareBytes a b < 0 ↔ Op.bytesLess a b = true)
 | [], [] => by simp [Lib.compareBytes, Op.bytesLess]
 | [], b :: y => by simp [Lib.compareBytes, Op.bytesLess]
 | a :: x, [] => by simp [Lib.compareBytes, Op.bytesLess]
 | a :: x, b :: y => by
  obtain ⟨h1, h2⟩ := cmp_eq x y
  have tri : a < b ∨ b < a ∨ a = b := by
   rcases Nat.lt_trichotomy a.toNat b.toNat with h | h | h
   ·exact .inl (UInt8.lt_iff_toNat_lt.2 h)
   ·exact .inr (.inr (UInt8.toNat.inj h))
   ·exact .inr (.inl (UInt8.lt_iff_toNat_lt.2 h))
  have irr : ¬ b < b := by simp
  simp only [Lib.compareBytes, Op.bytesLess]
  rcases tri with h | h | h
  ·have hne : ¬ a = b := fun e => irr (e ▸ h)
   simp [h, hne]
  ·have hne : ¬ a = b := fun e => irr (e ▸ h)
   have hnl : ¬ a < b := fun h' => by have h3 := UInt8.lt_iff_toNat_lt.1 h; have h4 := UInt8.lt_iff_toNat_lt.1 h'; omega
   simp [h, hne, hnl]
  ·subst h
   simp [h1, h2]
end Go.Graft
namespace Go.Proofs.Tryz
open Go Go.Sym Go.Graft
set_option maxRecDepth 20000
theorem cBSF (nl : Bool) (l : List It) (x : Str) (hs : l.length ≤ 1000000000) : Ctr prog 75 [.sl nl 3 (l.map It.pv), sV x, .clo (.func 76) [] []] [] (.tup [iV (place l x), bV (placed l x)]) [] [] := by
 have c := fun y => cPlaceFn y x
 have e : placed l x = (decide (((place l x : Nat) : Int) < (l.length : Int)) && decide (Lib.compareBytes l[((place l x : Nat) : Int).toNat]!.id x = 0)) := by
  have : decide (Lib.compareBytes l[((place l x : Nat) : Int).toNat]!.id x = 0) = decide (l[((place l x : Nat) : Int).toNat]!.id = x) := decide_eq_decide.2 (cmp_eq _ _).1
  rw [this]; rfl
 have e0 : place l x = hvAt (fun i => Op.bytesLess l[i]!.id x) 0 l.length := halve_eq _ _
 rw [e, e0]
 generalize hr : hvAt (fun i => Op.bytesLess l[i]!.id x) 0 l.length = r
 refine Ctr.enter tblOk func75 rfl (by decide) rfl (nt := 49) rfl rfl rfl rfl ?_
 refine Trip.sr tblOk ?_
 refine Trip.sr tblOk ?_
 refine Trip.sr tblOk ?_
 refine Trip.seq (Trip.block ?_)
 refine Trip.loop (fun (i : Nat × Nat) => ⟨[(0, .sl nl 3 (l.map It.pv)), (1, sV x), (2, .clo (.func 76) [] []), (8, iV l.length), (9, iV i.1), (10, iV i.2)], []⟩) (fun (i : Nat × Nat) => i.1 ≤ i.2 ∧ i.2 ≤ l.length ∧ hvAt (fun i => Op.bytesLess l[i]!.id x) i.1 i.2 = r) (fun (i : Nat × Nat) => i.2 - i.1) ((0, l.length)) (by exact ⟨Nat.zero_le _, Nat.le_refl _, hr⟩) (Weak.kp (ht := by repeat' (first | exact rfl | (refine vI ?_; first | omega | (simp; done) | (simp; omega) | (simp only [List.length_map] at *; omega)) | constructor))) ?_
 intro i hi
 obtain ⟨lo, hi2⟩ := i
 obtain ⟨h1, h2, h3⟩ := hi
 dsimp only at *
 refine Trip.seq (Trip.sr tblOk ?_)
 apply Trip.cond (.tmp rfl)
 ·intro h
  have h : lo < hi2 := by simp at h; omega
  rw [hvAt_lt _ _ _ h] at h3
  have em : IntKind.wrap .i64 (Int.fdiv (IntKind.wrap .u64 ((lo : Int) + (hi2 : Int))) (2 ^ min (1 : Int).toNat (IntKind.bits .u64))) = (((lo + hi2) / 2 : Nat) : Int) := by
   have e1 : IntKind.wrap .u64 ((lo : Int) + (hi2 : Int)) = ((lo + hi2 : Nat) : Int) := by simp [IntKind.wrap, IntKind.bits, IntKind.signed]; omega
   rw [e1]
   have e2 : Int.fdiv ((lo + hi2 : Nat) : Int) (2 ^ min (1 : Int).toNat (IntKind.bits .u64)) = (((lo + hi2) / 2 : Nat) : Int) := by
    rw [Int.fdiv_eq_ediv_of_nonneg _ (by decide)]; show ((lo + hi2 : Nat) : Int) / 2 = _; omega
   rw [e2]; simp [IntKind.wrap, IntKind.bits, IntKind.signed]; omega
  have hm1 : lo ≤ (lo + hi2) / 2 := by omega
  have hm2 : (lo + hi2) / 2 < hi2 := by omega
  refine Trip.skip (Trip.block ?_)
  refine Trip.rk ⟨[(0, .sl nl 3 (l.map It.pv)), (1, sV x), (2, .clo (.func 76) [] []), (8, iV l.length), (9, iV lo), (10, iV hi2), (11, iV (((lo + hi2) / 2 : Nat) : Int))], []⟩ tblOk (by repeat' (first | exact rfl | ((with_reducible refine Side.mk ?_); omega) | constructor)) (Weak.kp (ht := by repeat' (first | exact rfl | (refine vI ?_; exact em) | constructor))) ?_
  generalize (lo + hi2) / 2 = m at *
  refine Trip.sR tblOk (by repeat' (first | exact rfl | (apply Rule.sem; intro hγ; with_reducible apply F_call0 (x := .tmp 24) (B := []) hγ (hspec := (c _))) | exact convL_plain (by assumption) | exact idx_map _ _ _ (by show _ < _; first | omega | (simp only [List.length_map] at *; omega)) | ((with_reducible refine Side.mk ?_); first | exact .inl rfl | (simp only [ln]; first | done | omega)) | constructor)) ?_
  apply Trip.cond (.tmp rfl)
  ·intro h4
   have h4 : Op.bytesLess l[m]!.id x = true := (cmp_eq _ _).2.1 (by simpa using h4)
   rw [if_pos h4] at h3
   refine Trip.R tblOk (by repeat' (first | exact rfl | ((with_reducible refine Side.mk ?_); omega) | constructor)) ?_
   exact ⟨(m + 1, hi2), by exact ⟨by omega, h2, h3⟩, by first | omega | (dsimp only at *; omega), Weak.kp⟩
  intro h4
  have h4 : ¬ Op.bytesLess l[m]!.id x = true := fun h5 => by
   have := (cmp_eq _ _).2.2 h5
   have h6 : ¬ Lib.compareBytes l[m]!.id x < 0 := by simpa using h4
   exact h6 this
  rw [if_neg h4] at h3
  refine Trip.r tblOk ?_
  exact ⟨(lo, m), by exact ⟨by omega, by omega, h3⟩, by first | omega | (dsimp only at *; omega), Weak.kp⟩
 intro h
 have h : ¬ lo < hi2 := by simp at h; omega
 rw [hvAt_ge _ _ _ h] at h3
 subst h3
 refine Trip.exit (Trip.sR tblOk (by repeat' (first | exact rfl | (apply Rule.under tblOk; intro hγ; with_reducible apply Rule.indexAddr) | exact idx_map _ _ _ (by have h2 := hγ; simp only [gpick, cond_true, cond_false, decide_eq_true_eq, Bool.and_eq_true, Bool.or_eq_true, Bool.not_eq_true', Bool.not_eq_false', Bool.or_eq_false_iff, decide_eq_false_iff_not, List.length_map] at h2; show _ < _; omega) | (apply Rule.sem; intro hγ; with_reducible apply F_call0 (x := .tmp 40) (B := []) hγ (hspec := (c _))) | ((with_reducible refine Side.mk ?_); first | exact .inl rfl | exact fun h => h | exact fun _ h => h | exact fun _ => hγ | (have h2 := hγ; simp only [gpick, cond_true, cond_false, decide_eq_true_eq, Bool.and_eq_true, Bool.or_eq_true, Bool.not_eq_true', Bool.not_eq_false', Bool.or_eq_false_iff, decide_eq_false_iff_not, List.length_map] at h2; (try simp only [List.length_map]); omega)) | constructor)) ?_)
 refine Trip.ret (rt2 [] (hd := by repeat' (exact cvB (by first | rfl | simp))))
end Go.Proofs.Tryz
namespace Go.Proofs.Tryz
open Go Go.Sym Go.Graft
set_option maxRecDepth 20000
abbrev stPV (nl : Bool) (l : List It) : PV := .agg [.sl nl 3 (l.map It.pv)]
theorem cPlace (nl : Bool) (l : List It) (x : Str) (hs : l.length ≤ 1000000000) : Ctr prog 43 [stPV nl l, sV x] [] (.tup [iV (place l x), bV (placed l x)]) [] [] := by
 have c := cBSF nl l x hs
 generalize place l x = p at *
 generalize placed l x = q at *
 refine Ctr.enter tblOk func43 rfl (by decide) rfl (nt := 13) rfl rfl rfl rfl ?_
 refine Trip.sr tblOk ?_
 refine Trip.sR tblOk (by repeat' (first | exact rfl | (apply Rule.sem; intro hγ; with_reducible apply F_call0 (x := .func 75) (B := []) hγ (hspec := c)) | ((with_reducible refine Side.mk ?_); exact .inl rfl) | constructor)) ?_
 refine Trip.ret (rt2 [] (hd := by repeat' (exact cvB (by simp only [List.length_map]))))
theorem cHas (nl : Bool) (l : List It) (x : Str) (hs : l.length ≤ 1000000000) : Ctr prog 22 [stPV nl l, sV x] [] (bV (placed l x)) [] [] := by
 have c := cPlace nl l x hs
 generalize place l x = p at *
 generalize placed l x = q at *
 refine Ctr.enter tblOk func22 rfl (by decide) rfl (nt := 15) rfl rfl rfl rfl ?_
 refine Trip.sr tblOk ?_
 refine Trip.sR tblOk (by repeat' (first | exact rfl | (apply Rule.sem; intro hγ; with_reducible apply F_call0 (x := .func 43) (B := []) hγ (hspec := c)) | ((with_reducible refine Side.mk ?_); exact .inl rfl) | constructor)) ?_
 refine Trip.sr tblOk ?_
 refine Trip.ret (rt1 [] (hc := by repeat' (exact cvB (by simp only [List.length_map]))))
theorem cOfIt (x : It) : Ctr prog 40 [x.pv] [] (objPV x.kind x.body) [] [] := by
 refine Ctr.enter tblOk func40 rfl (by decide) rfl (nt := 8) rfl rfl rfl rfl ?_
 refine Trip.sr tblOk ?_
 refine Trip.sr tblOk ?_
 refine Trip.ret (rt1 [])
end Go.Proofs.Tryz
namespace Go.Proofs.Tryz
open Go Go.Sym Go.Graft
set_option maxRecDepth 20000
theorem cGet (nl : Bool) (l : List It) (x : Str) (hs : l.length ≤ 1000000000) : Ctr prog 15 [stPV nl l, sV x] [] (.tup [objPV (if placed l x then l[place l x]!.kind else 0) (if placed l x then l[place l x]!.body else []), iV (if placed l x then 0 else 5)]) [] [] := by
 have c := cPlace nl l x hs
 have c2 := fun y => cOfIt y
 have hlt : placed l x = true → place l x < l.length := by
  intro h
  simp only [placed, Bool.and_eq_true, decide_eq_true_eq] at h
  omega
 generalize place l x = p at *
 generalize placed l x = q at *
 refine Ctr.enter tblOk func15 rfl (by decide) rfl (nt := 24) rfl rfl rfl rfl ?_
 refine Trip.sr tblOk ?_
 refine Trip.sR tblOk (by repeat' (first | exact rfl | (apply Rule.sem; intro hγ; with_reducible apply F_call0 (x := .func 43) (B := []) hγ (hspec := c)) | ((with_reducible refine Side.mk ?_); exact .inl rfl) | constructor)) ?_
 refine Trip.seq (Trip.sr tblOk ?_)
 apply Trip.cond (.tmp rfl)
 ·intro h
  have h : q = false := by simpa using h
  subst h
  refine Trip.sr tblOk ?_
  refine Trip.ret (rt2 [])
 intro h
 have h : q = true := by simpa using h
 subst h
 have hlt := hlt rfl
 simp only [if_true]
 refine Trip.skip (Trip.sR tblOk (by repeat' (first | exact rfl | (apply Rule.sem; intro hγ; with_reducible apply F_call0 (x := .func 40) (B := []) hγ (hspec := (c2 _))) | exact idx_map _ _ _ (by show _ < _; first | omega | (simp only [List.length_map] at *; omega)) | ((with_reducible refine Side.mk ?_); first | exact .inl rfl | (simp only [ln]; first | done | omega)) | constructor)) ?_)
 refine Trip.ret (rt2 [])
end Go.Proofs.Tryz
namespace Go.Proofs.Tryz
open Go Go.Sym Go.Graft
set_option maxRecDepth 20000
theorem arrF {sz : Nat} {b b' : Bool} {es es' : List PV} (hb : b = b') (h : es = es') : SObj.arr sz b es = SObj.arr sz b' es' := by rw [hb, h]
theorem cIds2 (nl : Bool) (l : List It) (hs : l.length ≤ 1000000000) : Ctr prog 20 [stPV nl l] [] (.sl l.isEmpty 1 ((l.map It.id).map sV)) [] [] := by
 refine Ctr.enter tblOk func20 rfl (by decide) rfl (nt := 22) rfl rfl rfl rfl ?_
 refine Trip.sr tblOk ?_
 refine Trip.sr tblOk ?_
 refine Trip.seq (Trip.sr tblOk ?_)
 refine Trip.block ?_
 apply Trip.loop (fun (i : Nat) => ⟨[(1, .ref 1 0), (3, .osl 900 0 i i), (4, iV i)], [(900, .arr 1 (l.take i).isEmpty (((l.take i).map It.id).map sV)), (1, .box [.sl nl 3 (l.map It.pv)])]⟩) (fun (i : Nat) => i ≤ l.length) (fun (i : Nat) => l.length - i) (0)
 ·first | omega | (simp; done)
 ·refine Weak.trans (S2 := ⟨[(1, .ref 1 0), (3, nilS), (4, iV 0)], [(1, .box [.sl nl 3 (l.map It.pv)])]⟩) ?_ ?_
  ·exact Weak.kp
  ·exact Weak.adopt 900 1 rfl rfl (by repeat' (first | exact rfl | constructor)) (by repeat' (first | exact rfl | constructor))
 intro i hi
 have hsn := take_snoc l i
 have hle : ((l.take i).map It.id).length = i := by rw [List.length_map, List.length_take]; omega
 refine Trip.seq (Trip.sr tblOk ?_)
 apply Trip.cond (.tmp rfl)
 ·intro h
  have h : i < l.length := by simp at h; omega
  have hsn := hsn h
  have hem : (l.take (i + 1)).isEmpty = false := by rw [hsn]; simp
  generalize hT : l.take (i + 1) = T at *
  refine Trip.skip ?_
  refine Trip.seqk ⟨[(1, .ref 1 0), (3, .osl 900 0 (i + 1) (i + 1)), (4, iV i)], [(900, .arr 1 T.isEmpty ((T.map It.id).map sV)), (1, .box [.sl nl 3 (l.map It.pv)])]⟩ ?_ ?_
  ·refine Trip.block (Trip.R tblOk (by repeat' (first | exact rfl | exact idx_map _ _ _ (by show _ < _; first | omega | (simp only [List.length_map] at *; omega)) | ((with_reducible refine Side.mk ?_); (simp only [ln]; first | done | omega)) | constructor)) ?_)
   exact Weak.kp (ht := by repeat' (first | exact rfl | (refine Side.mk (oslE ?_ ?_) <;> (simp only [ln]; first | done | omega)) | constructor)) (ho := by repeat' (first | exact rfl | exact arrF (by rw [hem]; simp) (by rw [hsn]; simp) | constructor)) (huo := by repeat' (first | exact rfl | exact plainL_map _ (fun _ => rfl) _ | constructor))
  refine Trip.R tblOk (by repeat' (first | exact rfl | ((with_reducible refine Side.mk ?_); omega) | constructor)) ?_
  exact ⟨i + 1, by first | omega | (dsimp only at *; omega), by first | omega | (dsimp only at *; omega), Weak.kp (ho := by repeat' (first | exact rfl | (rw [hT]; rfl) | constructor)) (huo := by repeat' (first | exact rfl | exact plainL_map _ (fun _ => rfl) _ | constructor))⟩
 intro h
 have h : i = l.length := by simp at h; omega
 subst h
 have e8 : l.take l.length = l := List.take_of_length_le (by omega)
 rw [e8] at hle
 rw [e8]
 generalize l.isEmpty = em at *
 refine Trip.exit (Trip.sr tblOk ?_)
 refine Trip.ret (rt1 [900] (hc := by repeat' (first | exact rfl | exact plainL_map _ (fun _ => rfl) _ | (refine Side.mk ?_; simp only [ln]; first | done | omega) | constructor)))
end Go.Proofs.Tryz
namespace Go.Proofs.Tryz
open Go Go.Sym Go.Graft
set_option maxRecDepth 20000
theorem cIds (nl : Bool) (l : List It) (hs : l.length ≤ 1000000000) : Ctr prog 19 [stPV nl l] [] (.sl l.isEmpty 1 ((l.map It.id).map sV)) [] [] := by
 refine Ctr.enter tblOk func19 rfl (by decide) rfl (nt := 20) rfl rfl rfl rfl ?_
 refine Trip.sr tblOk ?_
 refine Trip.sr tblOk ?_
 refine Trip.seq (Trip.sr tblOk ?_)
 refine Trip.block ?_
 apply Trip.loop (fun (i : Nat) => ⟨[(3, .osl 900 0 i i), (7, .sl nl 3 (l.map It.pv)), (8, iV l.length), (9, iV i)], [(900, .arr 1 (l.take i).isEmpty (((l.take i).map It.id).map sV))]⟩) (fun (i : Nat) => i ≤ l.length) (fun (i : Nat) => l.length - i) (0)
 ·first | omega | (simp; done)
 ·refine Weak.trans (S2 := ⟨[(3, nilS), (7, .sl nl 3 (l.map It.pv)), (8, iV l.length), (9, iV 0)], []⟩) ?_ ?_
  ·exact Weak.kp (ht := by repeat' (first | exact rfl | (refine vI ?_; first | omega | (simp; done) | (simp; omega) | (simp only [List.length_map] at *; omega)) | constructor))
  ·exact Weak.adopt 900 1 rfl rfl (by repeat' (first | exact rfl | constructor)) (by repeat' (first | exact rfl | constructor))
 intro i hi
 have hsn := take_snoc l i
 have hle : ((l.take i).map It.id).length = i := by rw [List.length_map, List.length_take]; omega
 refine Trip.sr tblOk ?_
 refine Trip.seq ?_
 apply Trip.cond (.tmp rfl)
 ·intro h
  have h : i < l.length := by simp at h; omega
  have hsn := hsn h
  have hem : (l.take (i + 1)).isEmpty = false := by rw [hsn]; simp
  generalize hT : l.take (i + 1) = T at *
  refine Trip.skip ?_
  refine Trip.seqk ⟨[(3, .osl 900 0 (i + 1) (i + 1)), (7, .sl nl 3 (l.map It.pv)), (8, iV l.length), (9, iV i)], [(900, .arr 1 T.isEmpty ((T.map It.id).map sV))]⟩ ?_ ?_
  ·refine Trip.block (Trip.sR tblOk (by repeat' (first | exact rfl | exact idx_map _ _ _ (by show _ < _; first | omega | (simp only [List.length_map] at *; omega)) | ((with_reducible refine Side.mk ?_); (simp only [ln]; first | done | omega)) | constructor)) ?_)
   refine Trip.R tblOk (by repeat' (first | exact rfl | ((with_reducible refine Side.mk ?_); (simp only [ln]; first | done | omega)) | constructor)) ?_
   exact Weak.kp (ht := by repeat' (first | exact rfl | (refine Side.mk (oslE ?_ ?_) <;> (simp only [ln]; first | done | omega)) | constructor)) (ho := by repeat' (first | exact rfl | exact arrF (by rw [hem]; simp) (by rw [hsn]; simp) | constructor)) (huo := by repeat' (first | exact plainL_map _ (fun _ => rfl) _ | constructor))
  refine Trip.R tblOk (by repeat' (first | exact rfl | ((with_reducible refine Side.mk ?_); omega) | constructor)) ?_
  exact ⟨i + 1, by first | omega | (dsimp only at *; omega), by first | omega | (dsimp only at *; omega), Weak.kp (ho := by repeat' (first | exact rfl | (rw [hT]; rfl) | constructor)) (huo := by repeat' (first | exact plainL_map _ (fun _ => rfl) _ | constructor))⟩
 intro h
 have h : i = l.length := by simp at h; omega
 subst h
 have e8 : l.take l.length = l := List.take_of_length_le (by omega)
 rw [e8] at hle
 rw [e8]
 generalize l.isEmpty = em at *
 refine Trip.exit (Trip.sr tblOk ?_)
 refine Trip.ret (rt1 [900] (hc := by repeat' (first | exact rfl | exact plainL_map _ (fun _ => rfl) _ | (refine Side.mk ?_; simp only [ln]; first | done | omega) | constructor)))
end Go.Proofs.Tryz
