/- A part of the proof: Gd. -/
import Derived.Test.YteailifhgfijgaaGreatDoorPart23
set_option linter.unusedVariables false
set_option linter.unusedSimpArgs false
namespace Go.Proofs.Tryz
open Go Go.Sym Go.Graft
set_option maxRecDepth 20000
theorem u8snoc (l : Str) (x : UInt8) : l.map u8V ++ [u8V x] = (l ++ [x]).map u8V := by rw [List.map_append]; rfl
theorem zsnoc (i : Nat) : (128 :: List.replicate i (0 : UInt8)).map u8V ++ [.v (.int .u8 0)] = (128 :: List.replicate (i + 1) (0 : UInt8)).map u8V := by
 rw [List.replicate_succ']; exact u8snoc (128 :: List.replicate i (0 : UInt8)) 0
set_option maxHeartbeats 2000000 in
theorem cDigest2 (s : Str) (hs : s.length ≤ 1000000000) : Ctr prog 119 [sV s] [] (sV (sha s)) [] [] := by
 have ew : IntKind.wrap .u64 (IntKind.wrap .u64 (s.length : Int) * 8) = ((8 * s.length : Nat) : Int) := by simp [IntKind.wrap, IntKind.bits, IntKind.signed]; omega
 have hz := zpad_lt s.length
 have hsha : sha s = ((foldB (padB s) first ((padB s).length / 64))).flatMap bytes32 := rfl
 refine Ctr.enter tblOk func119 rfl (by decide) rfl (nt := 90) rfl rfl rfl rfl ?_
 refine Trip.sr tblOk ?_
 refine Trip.rk ⟨[(0, sV s), (3, .v (.int .u64 ((8 * s.length : Nat) : Int)))], []⟩ tblOk (by repeat' (first | exact rfl | constructor)) (Weak.kp (ht := by repeat' (first | exact rfl | (rw [← ew]; rfl) | constructor))) ?_
 refine Trip.sr tblOk ?_
 refine Trip.seq (Trip.block ?_)
 refine Trip.loop (fun (i : Nat) => ⟨[(0, sV s), (3, .v (.int .u64 ((8 * s.length : Nat) : Int))), (4, .osl 16 0 (i + 1) (i + 1))], [(16, .arr 1 false ((128 :: List.replicate i (0 : UInt8)).map u8V))]⟩) (fun (i : Nat) => i ≤ zpad s.length) (fun (i : Nat) => zpad s.length - i) (0) (by first | omega | (simp; done)) Weak.kp ?_
 intro i hi
 refine Trip.seq (Trip.sR tblOk (by repeat' (first | exact rfl | ((with_reducible refine Side.mk ?_); first | omega | (simp only [ln]; first | done | omega)) | constructor)) ?_)
 apply Trip.cond (.tmp rfl)
 ·intro h
  have h : (s.length + (i + 1)) % 64 ≠ 56 := by
   have : ¬ ((s.length : Int) + ((i : Int) + 1)) % 64 = 56 := by simpa using h
   omega
  have hlt : i < zpad s.length := by
   rcases Nat.lt_or_ge i (zpad s.length) with h1 | h1
   ·exact h1
   ·have : i = zpad s.length := by omega
    subst this; exact absurd (zpad_eq s.length) h
  refine Trip.skip (Trip.block (Trip.R tblOk (by repeat' (first | exact rfl | ((with_reducible refine Side.mk ?_); (simp only [ln]; first | done | omega)) | constructor)) ?_))
  exact ⟨i + 1, by first | omega | (dsimp only at *; omega), by first | omega | (dsimp only at *; omega), Weak.kp (ht := by repeat' (first | exact rfl | (refine Side.mk (oslE ?_ ?_) <;> (simp only [ln]; first | done | omega)) | constructor)) (ho := by repeat' (first | exact rfl | exact arrE (zsnoc i) | constructor)) (huo := by repeat' (first | exact plainL_map _ (fun _ => rfl) _ | constructor))⟩
 intro h
 have h : (s.length + (i + 1)) % 64 = 56 := by
  have : ((s.length : Int) + ((i : Int) + 1)) % 64 = 56 := by simpa using h
  omega
 have hlt : i = zpad s.length := by
  rcases Nat.lt_or_ge i (zpad s.length) with h1 | h1
  ·exact absurd h (zpad_ne s.length i h1)
  ·omega
 subst hlt
 refine Trip.exit (Trip.seq (Trip.sr tblOk ?_))
 refine Trip.block ?_
 refine Trip.loop (fun (j : Nat) => ⟨[(0, sV s), (3, .v (.int .u64 ((8 * s.length : Nat) : Int))), (4, .osl 16 0 (zpad s.length + 1 + j) (zpad s.length + 1 + j)), (5, iV (7 - j))], [(16, .arr 1 false ((128 :: List.replicate (zpad s.length) (0 : UInt8) ++ beN (8 * s.length) j).map u8V))]⟩) (fun (j : Nat) => j ≤ 8) (fun (j : Nat) => 8 - j) (0) (by first | omega | (simp; done)) (Weak.kp (ho := by repeat' (first | exact rfl | (refine arrE ?_; rw [beN_zero, List.append_nil]) | constructor)) (huo := by repeat' (first | exact plainL_map _ (fun _ => rfl) _ | constructor))) ?_
 intro j hj
 have hbs := beN_succ (8 * s.length) j
 have hba := be64_at (8 * s.length) j
 have hbl := beN_len (8 * s.length) j
 refine Trip.seq (Trip.sr tblOk ?_)
 apply Trip.cond (.tmp rfl)
 ·intro h
  have h : j ≤ 7 := by have : (0 : Int) ≤ 7 - j := by simpa using h
                       omega
  refine Trip.skip ?_
  refine Trip.seqk ⟨[(0, sV s), (3, .v (.int .u64 ((8 * s.length : Nat) : Int))), (4, .osl 16 0 (zpad s.length + 1 + (j + 1)) (zpad s.length + 1 + (j + 1))), (5, iV (7 - j))], [(16, .arr 1 false ((128 :: List.replicate (zpad s.length) (0 : UInt8) ++ beN (8 * s.length) (j + 1)).map u8V))]⟩ ?_ ?_
  ·refine Trip.block (Trip.R tblOk (by repeat' (first | exact rfl | ((with_reducible refine Side.mk ?_); first | omega | (simp only [ln]; first | done | omega)) | constructor)) ?_)
   exact Weak.kp (ht := by repeat' (first | exact rfl | (refine Side.mk (oslE ?_ ?_) <;> (simp only [ln]; first | done | omega)) | constructor)) (ho := by repeat' (first | exact rfl | (refine arrE ?_; rw [hbs, hba h, u8snoc]; simp only [List.append_assoc]) | constructor)) (huo := by repeat' (first | exact plainL_map _ (fun _ => rfl) _ | constructor))
  refine Trip.R tblOk (by repeat' (first | exact rfl | ((with_reducible refine Side.mk ?_); omega) | constructor)) ?_
  exact ⟨j + 1, by first | omega | (dsimp only at *; omega), by first | omega | (dsimp only at *; omega), Weak.kp (ht := by repeat' (first | exact rfl | (refine vI ?_; first | omega | (simp; done) | (simp; omega) | (simp only [List.length_map] at *; omega)) | constructor)) (huo := by repeat' (first | exact plainL_map _ (fun _ => rfl) _ | constructor))⟩
 intro h
 have h : j = 8 := by
  have : ¬ (0 : Int) ≤ 7 - j := by simpa using h
  omega
 subst h
 rw [beN_eight] at *
 have ht : tailB s.length = 128 :: List.replicate (zpad s.length) (0 : UInt8) ++ be64 (8 * s.length) := rfl
 have htl : (tailB s.length).length = zpad s.length + 1 + 8 := by rw [ht]; simp [be64]
 rw [← ht]
 have hp : padB s = s ++ tailB s.length := rfl
 obtain ⟨hp1, hp2⟩ := padB_len s
 generalize tailB s.length = tl at *
 refine Trip.exit ?_
 refine Trip.rk ⟨[(6, sV (padB s))], []⟩ tblOk (by repeat' (first | exact rfl | (apply Rule.sem; intro hγ; with_reducible apply F_bytesToString tblOk hγ) | ((with_reducible refine Side.mk ?_); first | omega | (simp only [ln]; first | done | omega)) | constructor)) (Weak.kp (ht := by repeat' (first | exact rfl | (rw [hp]; rfl) | constructor))) ?_
 generalize padB s = p at *
 generalize hK : p.length / 64 = K at *
 refine Trip.sR tblOk (by repeat' (first | exact rfl | (apply Rule.sem; intro hγ; with_reducible apply F_call0 (x := .func 161) (B := []) hγ (hspec := cFirst2)) | ((with_reducible refine Side.mk ?_); exact .inl rfl) | constructor)) ?_
 refine Trip.sR tblOk (by repeat' (first | exact rfl | (apply Rule.sem; intro hγ; with_reducible apply F_call0 (x := .func 162) (B := []) hγ (hspec := cKeys2)) | ((with_reducible refine Side.mk ?_); exact .inl rfl) | constructor)) ?_
 refine Trip.seq (Trip.sr tblOk ?_)
 refine Trip.block ?_
 refine Trip.loop (fun (k : Nat) => ⟨[(6, sV p), (7, .sl false 1 ((foldB p first k).map wV)), (8, .sl false 1 (keys.map wV)), (9, iV ((64 * k : Nat) : Int))], []⟩) (fun (k : Nat) => k ≤ K) (fun (k : Nat) => K - k) (0) (by first | omega | (simp; done)) Weak.kp ?_
 intro k hk
 have hl8 := foldB_len p first rfl k
 have hfs := foldB_succ p first k
 refine Trip.seq (Trip.sr tblOk ?_)
 apply Trip.cond (.tmp rfl)
 ·intro h
  have h : k < K := by have : ((64 * k : Nat) : Int) < p.length := by simpa using h
                       omega
  have cw := cWords2 p (64 * k) (by omega) (by omega)
  have hwl := wsN_length ((p.drop (64 * k)).take 64) 48
  have cb := fun b2 => cBlock2 false b2 false (foldB p first k) (wsN ((p.drop (64 * k)).take 64) 48) keys hl8 hwl rfl rfl
  rw [← hfs] at cb
  generalize hf2 : foldB p first (k + 1) = f2 at *
  generalize foldB p first k = f1 at *
  generalize wsN ((p.drop (64 * k)).take 64) 48 = ws at *
  generalize keys = ks at *
  refine Trip.skip ?_
  refine Trip.seqk ⟨[(6, sV p), (7, .sl false 1 (f2.map wV)), (8, .sl false 1 (ks.map wV)), (9, iV ((64 * k : Nat) : Int))], []⟩ ?_ ?_
  ·refine Trip.block (Trip.R tblOk (by repeat' (first | exact rfl | (apply Rule.sem; intro hγ; with_reducible apply F_call0 (x := .func 164) (B := []) hγ (hspec := cw)) | (apply Rule.sem; intro hγ; with_reducible apply F_call0 (x := .func 163) (B := []) hγ (hspec := (cb _))) | ((with_reducible refine Side.mk ?_); exact .inl rfl) | constructor)) ?_)
   exact Weak.kp
  refine Trip.R tblOk (by repeat' (first | exact rfl | ((with_reducible refine Side.mk ?_); omega) | constructor)) ?_
  exact ⟨k + 1, by first | omega | (dsimp only at *; omega), by first | omega | (dsimp only at *; omega), Weak.kp (ht := by repeat' (first | exact rfl | (rw [hf2]; rfl) | constructor))⟩
 intro h
 have h : k = K := by
  have : ¬ ((64 * k : Nat) : Int) < p.length := by simpa using h
  omega
 subst h
 generalize foldB p first k = f at *
 refine Trip.exit (Trip.sr tblOk ?_)
 refine Trip.seq (Trip.sr tblOk ?_)
 refine Trip.block ?_
 refine Trip.loop (fun (i : Nat) => ⟨[(7, .sl false 1 (f.map wV)), (10, .osl 57 0 (4 * i) (4 * i)), (11, iV i)], [(57, .arr 1 false (((f.take i).flatMap bytes32).map u8V))]⟩) (fun (i : Nat) => i ≤ 8) (fun (i : Nat) => 8 - i) (0) (by first | omega | (simp; done)) Weak.kp ?_
 intro i hi
 have hsn := take_snoc f i
 have hbl : ((f.take i).flatMap bytes32).length = 4 * i := by rw [flat_len, List.length_take]; omega
 refine Trip.seq (Trip.sr tblOk ?_)
 apply Trip.cond (.tmp rfl)
 ·intro h
  have h : i < 8 := by have : (i : Int) < 8 := by simpa using h
                       omega
  have hsn : ((f.take (i + 1)).flatMap bytes32) = (f.take i).flatMap bytes32 ++ bytes32 f[i]! := by rw [hsn (by omega), List.flatMap_append]; simp
  generalize hB : (f.take (i + 1)).flatMap bytes32 = B' at *
  generalize (f.take i).flatMap bytes32 = B at *
  refine Trip.skip ?_
  refine Trip.seqk ⟨[(7, .sl false 1 (f.map wV)), (10, .osl 57 0 (4 * (i + 1)) (4 * (i + 1))), (11, iV i)], [(57, .arr 1 false (B'.map u8V))]⟩ ?_ ?_
  ·refine Trip.block (Trip.D tblOk mixed (by repeat' (first | exact rfl | (with_reducible apply binW_shr) | (with_reducible apply convW_u8) | exact idx_map _ _ _ (by show _ < _; first | omega | (simp only [List.length_map] at *; omega)) | ((with_reducible refine Side.mk ?_); (simp only [ln]; first | done | omega)) | constructor)) ?_)
   exact Weak.kp (ht := by repeat' (first | exact rfl | (refine Side.mk (oslE ?_ ?_) <;> (simp only [ln]; first | done | omega)) | constructor)) (ho := by repeat' (first | exact rfl | (refine arrE ?_; rw [hsn, List.map_append]; rfl) | constructor)) (huo := by repeat' (first | exact plainL_map _ (fun _ => rfl) _ | constructor))
  refine Trip.R tblOk (by repeat' (first | exact rfl | ((with_reducible refine Side.mk ?_); omega) | constructor)) ?_
  exact ⟨i + 1, by first | omega | (dsimp only at *; omega), by first | omega | (dsimp only at *; omega), Weak.kp (ho := by repeat' (first | exact rfl | (rw [hB]; rfl) | constructor)) (huo := by repeat' (first | exact plainL_map _ (fun _ => rfl) _ | constructor))⟩
 intro h
 have h : i = 8 := by
  have : ¬ (i : Int) < 8 := by simpa using h
  omega
 subst h
 have e8 : f.take 8 = f := List.take_of_length_le (by omega)
 rw [e8] at hbl
 rw [e8, hsha]
 generalize f.flatMap bytes32 = B at *
 refine Trip.exit (Trip.sR tblOk (by repeat' (first | exact rfl | (apply Rule.sem; intro hγ; with_reducible apply F_bytesToString tblOk hγ) | ((with_reducible refine Side.mk ?_); (simp only [ln]; first | done | omega)) | constructor)) ?_)
 refine Trip.ret (rt1 [])
end Go.Proofs.Tryz
