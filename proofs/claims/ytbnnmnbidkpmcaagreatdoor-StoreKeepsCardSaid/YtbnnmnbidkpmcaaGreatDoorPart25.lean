/- A part of the proof: Gj, GObj, GObjB, Gk, Gl. -/
import Derived.Test.YtbnnmnbidkpmcaaGreatDoorPart24
set_option linter.unusedVariables false
set_option linter.unusedSimpArgs false
namespace Go.Proofs.Tryz
open Go Go.Sym Go.Graft
set_option maxRecDepth 20000
theorem shr56 (m j : Nat) (h : j ≤ 7) : IntKind.wrap .u8 (Int.fdiv (m : Int) (2 ^ min (56 - 8 * (j : Int)).toNat (IntKind.bits .u64))) = ((UInt8.ofNat (m / 256 ^ (7 - j))).toNat : Int) := by
 have := be64_at m j h
 rw [show (8 * (7 - (j : Int))) = 56 - 8 * (j : Int) by omega] at this
 exact this
set_option maxHeartbeats 4000000 in
theorem cDigest (s : Str) (hs : s.length ≤ 1000000000) : Ctr prog 121 [sV s] [] (sV (sha s)) [] [] := by
 have ew : IntKind.wrap .u64 (IntKind.wrap .u64 (s.length : Int) * 8) = ((8 * s.length : Nat) : Int) := by simp [IntKind.wrap, IntKind.bits, IntKind.signed]; omega
 have hz := zpad_lt s.length
 have hsha : sha s = ((foldB (padB s) first ((padB s).length / 64))).flatMap bytes32 := rfl
 obtain ⟨m, r, hmr, hr⟩ : ∃ m r, s.length = 64 * m + r ∧ r < 64 := ⟨s.length / 64, s.length % 64, by omega, by omega⟩
 have hp : padB s = s ++ tailB s.length := rfl
 obtain ⟨hp1, hp2⟩ := padB_len s
 generalize hpe : padB s = p at *
 generalize hK : p.length / 64 = K at *
 have hf0 : foldB p first 0 = first := rfl
 have hw0 : ww p 0 = List.replicate 64 0 := rfl
 refine Ctr.enter tblOk func121 rfl (by decide) rfl (nt := 97) rfl rfl rfl rfl ?_
 refine Trip.sr tblOk ?_
 refine Trip.rk ⟨[(0, sV s), (3, .ref 3 0)], [(3, .box ((foldB p first 0 ++ ww p 0).map wV))]⟩ tblOk (by repeat' (first | exact rfl | (apply Rule.sem; intro hγ; with_reducible apply F_buildArr (dst := some 13) tblOk hγ) | constructor)) Weak.kp ?_
 refine Trip.rk ⟨[(0, sV s), (3, .ref 3 0), (4, iV ((64 * m : Nat) : Int))], [(3, .box ((foldB p first 0 ++ ww p 0).map wV))]⟩ tblOk (by repeat' (first | exact rfl | ((with_reducible refine Side.mk ?_); omega) | constructor)) (Weak.kp (ht := by repeat' (first | exact rfl | (refine vI ?_; omega) | constructor))) ?_
 refine Trip.seq (Trip.sr tblOk ?_)
 refine Trip.block ?_
 refine Trip.loop (fun (k : Nat) => ⟨[(0, sV s), (3, .ref 3 0), (4, iV ((64 * m : Nat) : Int)), (5, iV ((64 * k : Nat) : Int))], [(3, .box ((foldB p first k ++ ww p k).map wV))]⟩) (fun (k : Nat) => k ≤ m) (fun (k : Nat) => m - k) (0) (by first | omega | (simp; done)) Weak.kp ?_
 intro k hk
 have hfs : foldB p first (k + 1) = comp (foldB p first k) ((p.drop (64 * k)).take 64) := rfl
 have hws : ww p (k + 1) = wsN ((p.drop (64 * k)).take 64) 48 := rfl
 have hl1 := foldB_len p first rfl k
 have hl2 := ww_len p k
 refine Trip.seq (Trip.sr tblOk ?_)
 apply Trip.cond (.tmp rfl)
 ·intro h
  have h : k < m := by simp at h; omega
  have hpre := blk_pre s (tailB s.length) k (by omega)
  rw [← hp] at hpre
  have cb := cBlock (foldB p first k) (ww p k) ((p.drop (64 * k)).take 64) hl1 hl2 (blk_len p k K hp1 (by omega))
  rw [← hfs, ← hws] at cb
  rw [← hpre] at cb
  generalize hf2 : foldB p first (k + 1) = f2 at *
  generalize hw2 : ww p (k + 1) = w2 at *
  generalize foldB p first k = f1 at *
  generalize ww p k = w1 at *
  refine Trip.skip ?_
  refine Trip.seqk ⟨[(0, sV s), (3, .ref 3 0), (4, iV ((64 * m : Nat) : Int)), (5, iV ((64 * k : Nat) : Int))], [(3, .box ((f2 ++ w2).map wV))]⟩ ?_ ?_
  ·refine Trip.block (Trip.R tblOk (by repeat' (first | exact rfl | (apply Rule.sem; intro hγ; with_reducible apply F_call (x := .func 155) (σ := [3]) (B := []) (news := []) hγ (hspec := cb)) | exact convL_plain (plainL_map _ (fun _ => rfl) _) | ((first | with_reducible refine bok ?_ | with_reducible refine Side.mk ?_); first | omega | exact .inl rfl) | constructor)) ?_)
   exact Weak.kp (huo := by repeat' (first | exact usesOnlyL_map _ (fun _ => rfl) _ | constructor))
  refine Trip.R tblOk (by repeat' (first | exact rfl | ((with_reducible refine Side.mk ?_); omega) | constructor)) ?_
  exact ⟨k + 1, by first | omega | (dsimp only at *; omega), by first | omega | (dsimp only at *; omega), Weak.kp (ho := by repeat' (first | exact rfl | (rw [hf2, hw2]; rfl) | constructor)) (huo := by repeat' (first | exact usesOnlyL_map _ (fun _ => rfl) _ | constructor))⟩
 intro h
 have h : k = m := by simp at h; omega
 subst h
 refine Trip.exit ?_
 have hRl : (s.drop (64 * k)).length = r := by rw [List.length_drop]; omega
 have hRt : (s.take s.length).drop ((64 * k : Nat) : Int).toNat = s.drop (64 * k) := by rw [List.take_of_length_le (Nat.le_refl _)]; rfl
 have hpd : p.drop (64 * k) = s.drop (64 * k) ++ tailB s.length := by rw [hp, List.drop_append_of_le_length (by omega)]
 refine Trip.rk ⟨[(0, sV s), (3, .ref 3 0), (6, .osl 35 0 r r)], [(3, .box ((foldB p first k ++ ww p k).map wV)), (35, .arr 1 false ((s.drop (64 * k)).map u8V))]⟩ tblOk (by repeat' (first | exact rfl | (apply Rule.sem; intro hγ; with_reducible apply F_stringToBytes tblOk hγ) | ((with_reducible refine bokL ?_); omega) | constructor)) (Weak.kp (ht := by repeat' (first | exact rfl | (refine Side.mk (oslE ?_ ?_) <;> (refine Eq.trans (congrArg List.length hRt) hRl)) | constructor)) (ho := by repeat' (first | exact rfl | exact arrE (congrArg (List.map u8V) hRt) | constructor)) (huo := by repeat' (first | exact plainL_map _ (fun _ => rfl) _ | exact usesOnlyL_map _ (fun _ => rfl) _ | constructor))) ?_
 generalize hR : s.drop (64 * k) = R at *
 refine Trip.rk ⟨[(0, sV s), (3, .ref 3 0), (6, .osl 35 0 (r + 1) (r + 1))], [(3, .box ((foldB p first k ++ ww p k).map wV)), (35, .arr 1 false ((R ++ 128 :: List.replicate 0 (0 : UInt8)).map u8V))]⟩ tblOk (by repeat' (first | exact rfl | ((with_reducible refine Side.mk ?_); (simp only [ln]; first | done | omega)) | constructor)) (Weak.kp (ht := by repeat' (first | exact rfl | (refine Side.mk (oslE ?_ ?_) <;> (simp only [ln]; first | done | omega)) | constructor)) (ho := by repeat' (first | exact rfl | exact arrE (u8snoc R 128) | constructor)) (huo := by repeat' (first | exact plainL_map _ (fun _ => rfl) _ | exact usesOnlyL_map _ (fun _ => rfl) _ | constructor))) ?_
 refine Trip.seq (Trip.block ?_)
 refine Trip.loop (fun (i : Nat) => ⟨[(0, sV s), (3, .ref 3 0), (6, .osl 35 0 (r + 1 + i) (r + 1 + i))], [(3, .box ((foldB p first k ++ ww p k).map wV)), (35, .arr 1 false ((R ++ 128 :: List.replicate i (0 : UInt8)).map u8V))]⟩) (fun (i : Nat) => i ≤ zpad s.length) (fun (i : Nat) => zpad s.length - i) (0) (by first | omega | (simp; done)) (Weak.kp (huo := by repeat' (first | exact plainL_map _ (fun _ => rfl) _ | exact usesOnlyL_map _ (fun _ => rfl) _ | constructor))) ?_
 intro i hi
 refine Trip.seq (Trip.sR tblOk (by repeat' (first | exact rfl | ((with_reducible refine Side.mk ?_); first | omega | (simp only [ln]; first | done | omega)) | constructor)) ?_)
 apply Trip.cond (.tmp rfl)
 ·intro h
  have h : (s.length + (i + 1)) % 64 ≠ 56 := by
   have : ¬ (((r + 1 + i : Nat) : Int)) % 64 = 56 := by simpa using h
   omega
  have hlt : i < zpad s.length := by
   rcases Nat.lt_or_ge i (zpad s.length) with h1 | h1
   ·exact h1
   ·have : i = zpad s.length := by omega
    subst this; exact absurd (zpad_eq s.length) h
  refine Trip.skip (Trip.block (Trip.R tblOk (by repeat' (first | exact rfl | ((with_reducible refine Side.mk ?_); (simp only [ln]; first | done | omega)) | constructor)) ?_))
  exact ⟨i + 1, by first | omega | (dsimp only at *; omega), by first | omega | (dsimp only at *; omega), Weak.kp (ht := by repeat' (first | exact rfl | (refine Side.mk (oslE ?_ ?_) <;> (simp only [ln]; first | done | omega)) | constructor)) (ho := by repeat' (first | exact rfl | (refine arrE ?_; rw [List.replicate_succ']; refine (u8snoc _ 0).trans ?_; simp only [List.append_assoc, List.cons_append]) | constructor)) (huo := by repeat' (first | exact plainL_map _ (fun _ => rfl) _ | exact usesOnlyL_map _ (fun _ => rfl) _ | constructor))⟩
 intro h
 have h : (s.length + (i + 1)) % 64 = 56 := by
  have : (((r + 1 + i : Nat) : Int)) % 64 = 56 := by simpa using h
  omega
 have hlt : i = zpad s.length := by
  rcases Nat.lt_or_ge i (zpad s.length) with h1 | h1
  ·exact absurd h (zpad_ne s.length i h1)
  ·omega
 subst hlt
 refine Trip.exit ?_
 refine Trip.rk ⟨[(3, .ref 3 0), (6, .osl 35 0 (r + 1 + zpad s.length) (r + 1 + zpad s.length)), (7, .v (.int .u64 ((8 * s.length : Nat) : Int)))], [(3, .box ((foldB p first k ++ ww p k).map wV)), (35, .arr 1 false ((R ++ 128 :: List.replicate (zpad s.length) (0 : UInt8)).map u8V))]⟩ tblOk (by repeat' (first | exact rfl | constructor)) (Weak.kp (ht := by repeat' (first | exact rfl | (rw [← ew]; rfl) | constructor)) (huo := by repeat' (first | exact plainL_map _ (fun _ => rfl) _ | exact usesOnlyL_map _ (fun _ => rfl) _ | constructor))) ?_
 refine Trip.seq (Trip.sr tblOk ?_)
 refine Trip.block ?_
 refine Trip.loop (fun (j : Nat) => ⟨[(3, .ref 3 0), (6, .osl 35 0 (r + 1 + zpad s.length + j) (r + 1 + zpad s.length + j)), (7, .v (.int .u64 ((8 * s.length : Nat) : Int))), (8, iV (56 - 8 * j))], [(3, .box ((foldB p first k ++ ww p k).map wV)), (35, .arr 1 false ((R ++ 128 :: List.replicate (zpad s.length) (0 : UInt8) ++ beN (8 * s.length) j).map u8V))]⟩) (fun (j : Nat) => j ≤ 8) (fun (j : Nat) => 8 - j) (0) (by first | omega | (simp; done)) (Weak.kp (ho := by repeat' (first | exact rfl | (refine arrE ?_; rw [beN_zero, List.append_nil]) | constructor)) (huo := by repeat' (first | exact plainL_map _ (fun _ => rfl) _ | exact usesOnlyL_map _ (fun _ => rfl) _ | constructor))) ?_
 intro j hj
 have hbs := beN_succ (8 * s.length) j
 have hba := shr56 (8 * s.length) j
 have hbl := beN_len (8 * s.length) j
 refine Trip.seq (Trip.sr tblOk ?_)
 apply Trip.cond (.tmp rfl)
 ·intro h
  have h : j ≤ 7 := by have : (0 : Int) ≤ 56 - 8 * j := by simpa using h
                       omega
  refine Trip.skip ?_
  refine Trip.seqk ⟨[(3, .ref 3 0), (6, .osl 35 0 (r + 1 + zpad s.length + (j + 1)) (r + 1 + zpad s.length + (j + 1))), (7, .v (.int .u64 ((8 * s.length : Nat) : Int))), (8, iV (56 - 8 * j))], [(3, .box ((foldB p first k ++ ww p k).map wV)), (35, .arr 1 false ((R ++ 128 :: List.replicate (zpad s.length) (0 : UInt8) ++ beN (8 * s.length) (j + 1)).map u8V))]⟩ ?_ ?_
  ·refine Trip.block (Trip.R tblOk (by repeat' (first | exact rfl | ((with_reducible refine Side.mk ?_); first | omega | (simp only [ln]; first | done | omega)) | constructor)) ?_)
   exact Weak.kp (ht := by repeat' (first | exact rfl | (refine Side.mk (oslE ?_ ?_) <;> (simp only [ln]; first | done | omega)) | constructor)) (ho := by repeat' (first | exact rfl | (refine arrE ?_; rw [hbs, hba h, u8snoc]; simp only [List.append_assoc]) | constructor)) (huo := by repeat' (first | exact plainL_map _ (fun _ => rfl) _ | exact usesOnlyL_map _ (fun _ => rfl) _ | constructor))
  refine Trip.R tblOk (by repeat' (first | exact rfl | ((with_reducible refine Side.mk ?_); omega) | constructor)) ?_
  exact ⟨j + 1, by first | omega | (dsimp only at *; omega), by first | omega | (dsimp only at *; omega), Weak.kp (ht := by repeat' (first | exact rfl | (refine vI ?_; first | omega | (simp; done) | (simp; omega) | (simp only [List.length_map] at *; omega)) | constructor)) (huo := by repeat' (first | exact plainL_map _ (fun _ => rfl) _ | exact usesOnlyL_map _ (fun _ => rfl) _ | constructor))⟩
 intro h
 have h : j = 8 := by
  have : ¬ (0 : Int) ≤ 56 - 8 * j := by simpa using h
  omega
 subst h
 rw [beN_eight] at *
 have ht : tailB s.length = 128 :: List.replicate (zpad s.length) (0 : UInt8) ++ be64 (8 * s.length) := rfl
 have hrest : R ++ 128 :: List.replicate (zpad s.length) (0 : UInt8) ++ be64 (8 * s.length) = p.drop (64 * k) := by rw [hpd, ht, List.append_assoc]
 have hlen : (p.drop (64 * k)).length = r + 1 + zpad s.length + 8 := by rw [List.length_drop]; omega
 rw [hrest]
 refine Trip.exit (Trip.seq (Trip.sr tblOk ?_))
 refine Trip.block ?_
 refine Trip.loop (fun (i : Nat) => ⟨[(3, .ref 3 0), (6, .osl 35 0 (r + 1 + zpad s.length + 8) (r + 1 + zpad s.length + 8)), (9, iV ((64 * i : Nat) : Int))], [(3, .box ((foldB p first (k + i) ++ ww p (k + i)).map wV)), (35, .arr 1 false ((p.drop (64 * k)).map u8V))]⟩) (fun (i : Nat) => i ≤ K - k) (fun (i : Nat) => K - k - i) (0) (by first | omega | (simp; done)) (Weak.kp (huo := by repeat' (first | exact plainL_map _ (fun _ => rfl) _ | exact usesOnlyL_map _ (fun _ => rfl) _ | constructor))) ?_
 intro i hi
 have hfs : foldB p first (k + (i + 1)) = comp (foldB p first (k + i)) ((p.drop (64 * (k + i))).take 64) := rfl
 have hws : ww p (k + (i + 1)) = wsN ((p.drop (64 * (k + i))).take 64) 48 := rfl
 have hl1 := foldB_len p first rfl (k + i)
 have hl2 := ww_len p (k + i)
 refine Trip.seq (Trip.sR tblOk (by repeat' (first | exact rfl | ((with_reducible refine Side.mk ?_); (simp only [ln]; first | done | omega)) | constructor)) ?_)
 apply Trip.cond (.tmp rfl)
 ·intro h
  have h : i < K - k := by
   have : ((64 * i : Nat) : Int) < ((r + 1 + zpad s.length + 8 : Nat) : Int) := by simpa using h
   omega
  have cb := cBlock (foldB p first (k + i)) (ww p (k + i)) ((p.drop (64 * (k + i))).take 64) hl1 hl2 (blk_len p (k + i) K hp1 (by omega))
  rw [← hfs, ← hws] at cb
  have hx : (((p.drop (64 * k)).map u8V).drop (0 + ((64 * i : Nat) : Int).toNat)).take ((((64 * i : Nat) : Int) + 64).toNat - ((64 * i : Nat) : Int).toNat) = ((p.drop (64 * (k + i))).take 64).map u8V := by
   rw [← List.map_drop, List.drop_drop, ← List.map_take, show 64 * k + (0 + ((64 * i : Nat) : Int).toNat) = 64 * (k + i) by omega, show (((64 * i : Nat) : Int) + 64).toNat - ((64 * i : Nat) : Int).toNat = 64 by omega]
  generalize hf2 : foldB p first (k + (i + 1)) = f2 at *
  generalize hw2 : ww p (k + (i + 1)) = w2 at *
  generalize foldB p first (k + i) = f1 at *
  generalize ww p (k + i) = w1 at *
  refine Trip.skip ?_
  refine Trip.seqk ⟨[(3, .ref 3 0), (6, .osl 35 0 (r + 1 + zpad s.length + 8) (r + 1 + zpad s.length + 8)), (9, iV ((64 * i : Nat) : Int))], [(3, .box ((f2 ++ w2).map wV)), (35, .arr 1 false ((p.drop (64 * k)).map u8V))]⟩ ?_ ?_
  ·refine Trip.block (Trip.R tblOk (by repeat' (first | exact rfl | (apply Rule.sem; intro hγ; with_reducible apply F_bytesToString (l := ((p.drop (64 * (k + i))).take 64)) tblOk hγ) | (apply Rule.sem; intro hγ; with_reducible apply F_call (x := .func 155) (σ := [3]) (B := []) (news := []) hγ (hspec := cb)) | exact convL_plain (plainL_map _ (fun _ => rfl) _) | ((first | with_reducible refine bok ?_ | with_reducible refine Side.mk ?_); first | omega | exact .inl rfl | (simp only [ln]; first | done | omega) | exact hx) | constructor)) ?_)
   exact Weak.kp (huo := by repeat' (first | exact plainL_map _ (fun _ => rfl) _ | exact usesOnlyL_map _ (fun _ => rfl) _ | constructor))
  refine Trip.R tblOk (by repeat' (first | exact rfl | ((with_reducible refine Side.mk ?_); omega) | constructor)) ?_
  exact ⟨i + 1, by first | omega | (dsimp only at *; omega), by first | omega | (dsimp only at *; omega), Weak.kp (ho := by repeat' (first | exact rfl | (rw [hf2, hw2]; rfl) | constructor)) (huo := by repeat' (first | exact plainL_map _ (fun _ => rfl) _ | exact usesOnlyL_map _ (fun _ => rfl) _ | constructor))⟩
 intro h
 have h : k + i = K := by
  have : ¬ ((64 * i : Nat) : Int) < ((r + 1 + zpad s.length + 8 : Nat) : Int) := by simpa using h
  omega
 have hl1 := foldB_len p first rfl K
 rw [h]
 generalize foldB p first K = f at *
 generalize ww p K = w0 at *
 refine Trip.exit (Trip.sR tblOk (by repeat' (first | exact rfl | (apply Rule.sem; intro hγ; with_reducible apply F_makeSlice tblOk hγ) | ((with_reducible refine Side.mk ?_); (dsimp only; omega)) | constructor)) ?_)
 refine Trip.seq (Trip.sR tblOk (by repeat' (first | exact rfl | exact takeHd wV hl1 | constructor)) ?_)
 refine Trip.block ?_
 refine Trip.loop (fun (i : Nat) => ⟨[(76, .agg (f.map wV)), (10, .osl 74 0 (4 * i) (4 * i)), (77, iV i)], [(74, .arr 1 false (((f.take i).flatMap bytes32).map u8V))]⟩) (fun (i : Nat) => i ≤ 8) (fun (i : Nat) => 8 - i) (0) (by first | omega | (simp; done)) (Weak.kp (hu := by (show (usesOnlyL _ _ && _) = true; rw [usesOnlyL_map _ (fun _ => rfl)]; rfl))) ?_
 intro i hi
 have hsn := take_snoc f i
 have hbl : ((f.take i).flatMap bytes32).length = 4 * i := by rw [flat_len, List.length_take]; omega
 refine Trip.sr tblOk ?_
 refine Trip.seq ?_
 apply Trip.cond (.tmp rfl)
 ·intro h
  have h : i < 8 := by have : (i : Int) < 8 := by simpa using h
                       omega
  have hsn : ((f.take (i + 1)).flatMap bytes32) = (f.take i).flatMap bytes32 ++ bytes32 f[i]! := by rw [hsn (by omega), List.flatMap_append]; simp
  have ei : (i : Int).toNat * 1 = i := by omega
  have nx : nth (f.map wV) ((i : Int).toNat * 1) = some (wV f[i]!) := by rw [ei]; exact nth_map wV f i (by omega)
  generalize hB : (f.take (i + 1)).flatMap bytes32 = B' at *
  generalize (f.take i).flatMap bytes32 = B at *
  refine Trip.skip ?_
  refine Trip.seqk ⟨[(76, .agg (f.map wV)), (10, .osl 74 0 (4 * (i + 1)) (4 * (i + 1))), (77, iV i)], [(74, .arr 1 false (B'.map u8V))]⟩ ?_ ?_
  ·refine Trip.block ?_
   refine Trip.rk ⟨[(76, .agg (f.map wV)), (10, .osl 74 0 (4 * i) (4 * i)), (12, wV f[i]!), (77, iV i)], [(74, .arr 1 false (B.map u8V))]⟩ tblOk (by repeat' (first | exact rfl | (apply Rule.sem; intro hγ; with_reducible apply F_indexArr tblOk hγ) | exact PartR.one nx | ((with_reducible refine Side.mk ?_); omega) | constructor)) (Weak.kp (hu := by (show (usesOnlyL _ _ && _) = true; rw [usesOnlyL_map _ (fun _ => rfl)]; rfl)) (huo := by repeat' (first | exact plainL_map _ (fun _ => rfl) _ | constructor))) ?_
   refine Trip.R tblOk (by repeat' (first | exact rfl | (with_reducible apply binW_shr) | (with_reducible apply convW_u8) | ((with_reducible refine Side.mk ?_); (simp only [ln]; first | done | omega)) | constructor)) ?_
   exact Weak.kp (ht := by repeat' (first | exact rfl | (refine Side.mk (oslE ?_ ?_) <;> (simp only [ln]; first | done | omega)) | constructor)) (ho := by repeat' (first | exact rfl | (refine arrE ?_; rw [hsn, List.map_append]; rfl) | constructor)) (hu := by (show (usesOnlyL _ _ && _) = true; rw [usesOnlyL_map _ (fun _ => rfl)]; rfl)) (huo := by repeat' (first | exact plainL_map _ (fun _ => rfl) _ | constructor))
  refine Trip.R tblOk (by repeat' (first | exact rfl | ((with_reducible refine Side.mk ?_); omega) | constructor)) ?_
  exact ⟨i + 1, by first | omega | (dsimp only at *; omega), by first | omega | (dsimp only at *; omega), Weak.kp (ho := by repeat' (first | exact rfl | (rw [hB]; rfl) | constructor)) (hu := by (show (usesOnlyL _ _ && _) = true; rw [usesOnlyL_map _ (fun _ => rfl)]; rfl)) (huo := by repeat' (first | exact plainL_map _ (fun _ => rfl) _ | constructor))⟩
 intro h
 have h : i = 8 := by
  have : ¬ (i : Int) < 8 := by simpa using h
  omega
 subst h
 have e8 : f.take 8 = f := List.take_of_length_le (by omega)
 rw [e8] at hbl
 rw [e8, hsha]
 generalize f.flatMap bytes32 = B at *
 refine Trip.exit (Trip.sR tblOk (by repeat' (first | exact rfl | (apply Rule.sem; intro hγ; with_reducible apply F_bytesToString tblOk hγ) | ((with_reducible refine Side.mk ?_); (simp only [ln]; first | done | omega)) | constructor)) ?_)
 refine Trip.ret (rt1 [])
theorem cOf (s : Str) (hs : s.length ≤ 1000000000) : Ctr prog 73 [sV s] [] (sV (idOf s)) [] [] := by
 have hl := sha_len s
 have c1 := cDigest s hs
 have c2 := cHex ((sha s).take 20) (by rw [List.length_take]; omega)
 have e : idOf s = hexOf ((sha s).take 20) := rfl
 rw [e]
 generalize sha s = d at *
 refine Ctr.enter tblOk func73 rfl (by decide) rfl (nt := 7) rfl rfl rfl rfl ?_
 refine Trip.sr tblOk ?_
 refine Trip.sR tblOk (by repeat' (first | exact rfl | (apply Rule.sem; intro hγ; with_reducible apply F_call0 (x := .func 121) (B := []) hγ (hspec := c1)) | (apply Rule.sem; intro hγ; with_reducible apply F_call0 (x := .func 111) (B := []) hγ (hspec := c2)) | ((first | with_reducible refine bokR ?_ | with_reducible refine Side.mk ?_); first | omega | exact .inl rfl) | constructor)) ?_
 refine Trip.ret (rt1 [])
end Go.Proofs.Tryz
namespace Go.Graft
open Go.Sym
def wBlob : Str := [98, 108, 111, 98]
def wTree : Str := [116, 114, 101, 101]
def wCommit : Str := [99, 111, 109, 109, 105, 116]
def wTag : Str := [116, 97, 103]
def wordK (k : Int) : Str := if k = 1 then wBlob else if k = 2 then wTree else if k = 3 then wCommit else if k = 4 then wTag else []
def kindW (w : Str) : Int := if w = wBlob then 1 else if w = wTree then 2 else if w = wCommit then 3 else if w = wTag then 4 else 0
@[reducible] def objPV (k : Int) (b : Str) : PV := .agg [iV k, sV b]
def objErr (k : Int) (b : Str) : Int := if wordK k = [] then 140 else if (1048576 : Int) < b.length then 4 else 0
def objText (k : Int) (b : Str) : Str := wordK k ++ [32] ++ Lib.itoa b.length ++ [0] ++ b
def objBytes (k : Int) (b : Str) : Str := if objErr k b = 0 then objText k b else []
def objId (k : Int) (b : Str) : Str := if objErr k b = 0 then idOf (objText k b) else []
theorem wordK_len (k : Int) : (wordK k).length ≤ 6 := by
 unfold wordK
 repeat' split
 all_goals decide
end Go.Graft
namespace Go.Graft
open Go.Sym
theorem kindW_wordK (k : Nat) (h1 : 1 ≤ k) (h2 : k ≤ 4) : kindW (wordK (k : Int)) = (k : Int) ∧ wordK (k : Int) ≠ [] := by
 obtain rfl | rfl | rfl | rfl : k = 1 ∨ k = 2 ∨ k = 3 ∨ k = 4 := by omega
 all_goals decide
theorem kindW_none (w : Str) (h : ∀ j : Nat, 1 ≤ j → j < 5 → wordK (j : Int) ≠ w) : kindW w = 0 := by
 have h1 := h 1 (by omega) (by omega)
 have h2 := h 2 (by omega) (by omega)
 have h3 := h 3 (by omega) (by omega)
 have h4 := h 4 (by omega) (by omega)
 rw [kindW, if_neg (fun e => h1 e.symm), if_neg (fun e => h2 e.symm), if_neg (fun e => h3 e.symm), if_neg (fun e => h4 e.symm)]
theorem wordK_none (k : Int) (h : ∀ j : Nat, j < 4 → (j : Int) + 1 ≠ k) : wordK k = [] := by
 have h1 := h 0 (by omega)
 have h2 := h 1 (by omega)
 have h3 := h 2 (by omega)
 have h4 := h 3 (by omega)
 rw [wordK, if_neg (by omega), if_neg (by omega), if_neg (by omega), if_neg (by omega)]
def kindsPV : List PV := [iV 1, sV wBlob, iV 2, sV wTree, iV 3, sV wCommit, iV 4, sV wTag]
theorem kinds_part (i : Nat) (h : i < 4) : PartR kindsPV ((i : Int).toNat * 2) (some 2) (.agg [iV ((i : Int) + 1), sV (wordK ((i : Int) + 1))]) := by
 obtain rfl | rfl | rfl | rfl : i = 0 ∨ i = 1 ∨ i = 2 ∨ i = 3 := by omega
 all_goals (refine .agg (by repeat constructor) (by repeat constructor))
theorem dec_step (k : Nat) (s : Str) : (if k / 10 = 0 then UInt8.ofNat (48 + k % 10) :: s else Lib.decDigits (k / 10) ++ UInt8.ofNat (48 + k % 10) :: s) = Lib.decDigits k ++ s := by
 conv => rhs; rw [Lib.decDigits]
 by_cases h : k < 10
 ·rw [if_pos (by omega), dif_pos h, Nat.mod_eq_of_lt h]; rfl
 ·rw [if_neg (by omega), dif_neg h]; simp
theorem dig_val (k : Nat) : IntKind.wrap .u8 (48 + max ((k % 10 : Nat) : Int) (IntKind.wrap .i64 (0 - ((k % 10 : Nat) : Int)))) = ((UInt8.ofNat (48 + k % 10)).toNat : Int) := by
 have key : ∀ d : Fin 10, IntKind.wrap .u8 (48 + max ((d.val : Nat) : Int) (IntKind.wrap .i64 (0 - ((d.val : Nat) : Int)))) = ((UInt8.ofNat (48 + d.val)).toNat : Int) := by decide
 exact key ⟨k % 10, Nat.mod_lt _ (by omega)⟩
theorem dig_max (k : Nat) : max ((k % 10 : Nat) : Int) (IntKind.wrap .i64 (0 - ((k % 10 : Nat) : Int))) = ((k % 10 : Nat) : Int) := by
 have key : ∀ d : Fin 10, max ((d.val : Nat) : Int) (IntKind.wrap .i64 (0 - ((d.val : Nat) : Int))) = (d.val : Int) := by decide
 exact key ⟨k % 10, Nat.mod_lt _ (by omega)⟩
theorem itoa_nat (n : Nat) : Lib.itoa (n : Int) = Lib.decDigits n := by
 rw [Lib.itoa, if_neg (by omega)]; rfl
end Go.Graft
namespace Go.Proofs.Tryz
open Go Go.Sym Go.Graft
set_option maxRecDepth 20000
theorem cWord2 (k : Int) : Ctr prog 81 [iV k] [] (sV (wordK k)) [] [] := by
 refine Ctr.enter tblOk func81 rfl (by decide) rfl (nt := 12) rfl rfl rfl rfl ?_
 refine Trip.sr tblOk ?_
 refine Trip.seq (Trip.sr tblOk ?_)
 refine Trip.block (Trip.sr tblOk ?_)
 apply Trip.cond (.tmp rfl)
 ·intro h
  have h : k = 1 := by simpa using h
  subst h
  refine Trip.sr tblOk ?_
  refine Trip.ret (rt1 [])
 intro h1
 have h1 : ¬ k = 1 := by simpa using h1
 refine Trip.sr tblOk ?_
 apply Trip.cond (.tmp rfl)
 ·intro h
  have h : k = 2 := by simpa using h
  subst h
  refine Trip.sr tblOk ?_
  refine Trip.ret (rt1 [])
 intro h2
 have h2 : ¬ k = 2 := by simpa using h2
 refine Trip.sr tblOk ?_
 apply Trip.cond (.tmp rfl)
 ·intro h
  have h : k = 3 := by simpa using h
  subst h
  refine Trip.sr tblOk ?_
  refine Trip.ret (rt1 [])
 intro h3
 have h3 : ¬ k = 3 := by simpa using h3
 refine Trip.sr tblOk ?_
 apply Trip.cond (.tmp rfl)
 ·intro h
  have h : k = 4 := by simpa using h
  subst h
  refine Trip.sr tblOk ?_
  refine Trip.ret (rt1 [])
 intro h4
 have h4 : ¬ k = 4 := by simpa using h4
 have e : wordK k = [] := by rw [wordK, if_neg h1, if_neg h2, if_neg h3, if_neg h4]
 rw [e]
 refine Trip.skip (Trip.sr tblOk ?_)
 refine Trip.ret (rt1 [])
theorem cCheck14 (k : Int) (b : Str) : Ctr prog 80 [objPV k b] [] (iV (objErr k b)) [] [] := by
 have c := cWord2 k
 have e : objErr k b = if wordK k = [] then 140 else if (1048576 : Int) < b.length then 4 else 0 := rfl
 rw [e]
 generalize wordK k = w at *
 refine Ctr.enter tblOk func80 rfl (by decide) rfl (nt := 11) rfl rfl rfl rfl ?_
 refine Trip.sr tblOk ?_
 refine Trip.seq (Trip.sR tblOk (by repeat' (first | exact rfl | (apply Rule.sem; intro hγ; with_reducible apply F_call0 (x := .func 81) (B := []) hγ (hspec := c)) | ((with_reducible refine Side.mk ?_); exact .inl rfl) | constructor)) ?_)
 apply Trip.cond (.tmp rfl)
 ·intro h
  have h : w = [] := by simpa using h
  rw [if_pos h]
  refine Trip.sr tblOk ?_
  refine Trip.ret (rt1 [])
 intro h
 have h : ¬ w = [] := by simpa using h
 rw [if_neg h]
 refine Trip.skip (Trip.seq (Trip.sr tblOk ?_))
 apply Trip.cond (.tmp rfl)
 ·intro h
  have h : (1048576 : Int) < b.length := by simpa using h
  rw [if_pos h]
  refine Trip.sr tblOk ?_
  refine Trip.ret (rt1 [])
 intro h
 have h : ¬ (1048576 : Int) < b.length := by simpa using h
 rw [if_neg h]
 refine Trip.skip (Trip.sr tblOk ?_)
 refine Trip.ret (rt1 [])
theorem cSame (k k' : Int) (b b' : Str) : Ctr prog 44 [objPV k b, objPV k' b'] [] (bV (decide (k = k') && (decide (b = b') && true))) [] [] := by
 refine Ctr.enter tblOk func44 rfl (by decide) rfl (nt := 8) rfl rfl rfl rfl ?_
 refine Trip.sr tblOk ?_
 refine Trip.sr tblOk ?_
 refine Trip.ret (rt1 [] (hc := by repeat' (exact cvB (by simp only [List.length_map]))))
theorem cKinds : Ctr prog 141 [] [] (.agg kindsPV) [] [] := by
 refine Ctr.enter tblOk func141 rfl (by decide) rfl (nt := 6) rfl rfl rfl rfl ?_
 refine Trip.sr tblOk ?_
 refine Trip.sR tblOk (by repeat' (first | exact rfl | (apply Rule.sem; intro hγ; with_reducible apply F_buildArr (dst := some 5) tblOk hγ) | constructor)) ?_
 refine Trip.ret (rt1 [])
end Go.Proofs.Tryz
namespace Go.Proofs.Tryz
open Go Go.Sym Go.Graft
set_option maxRecDepth 20000
theorem cWord (k : Int) : Ctr prog 107 [iV k] [] (sV (wordK k)) [] [] := by
 refine Ctr.enter tblOk func107 rfl (by decide) rfl (nt := 16) rfl rfl rfl rfl ?_
 refine Trip.sr tblOk ?_
 refine Trip.seq (Trip.sR tblOk (by repeat' (first | exact rfl | (apply Rule.sem; intro hγ; with_reducible apply F_call0 (x := .func 141) (B := []) hγ (hspec := cKinds)) | ((with_reducible refine Side.mk ?_); exact .inl rfl) | constructor)) ?_)
 refine Trip.block ?_
 refine Trip.loop (fun (i : Nat) => ⟨[(0, iV k), (5, .agg kindsPV), (6, iV i)], []⟩) (fun (i : Nat) => i ≤ 4 ∧ ∀ j : Nat, j < i → (j : Int) + 1 ≠ k) (fun (i : Nat) => 4 - i) (0) (by exact ⟨by omega, fun j hj => absurd hj (by omega)⟩) Weak.kp ?_
 intro i hi
 obtain ⟨hi, hj⟩ := hi
 refine Trip.sr tblOk ?_
 refine Trip.seq ?_
 apply Trip.cond (.tmp rfl)
 ·intro h
  have h : i < 4 := by simp at h; omega
  have hpart := kinds_part i h
  refine Trip.skip (Trip.seq (Trip.block (Trip.sR tblOk (by repeat' (first | exact rfl | (apply Rule.sem; intro hγ; with_reducible apply F_indexArr tblOk hγ) | exact hpart | ((with_reducible refine Side.mk ?_); omega) | constructor)) ?_)))
  refine Trip.sr tblOk ?_
  apply Trip.cond (.tmp rfl)
  ·intro h2
   have h2 : (i : Int) + 1 = k := by simpa using h2
   rw [h2]
   refine Trip.sr tblOk ?_
   refine Trip.ret (rt1 [])
  intro h2
  have h2 : ¬ (i : Int) + 1 = k := by simpa using h2
  refine Trip.skip (Trip.R tblOk (by repeat' (first | exact rfl | ((with_reducible refine Side.mk ?_); omega) | constructor)) ?_)
  exact ⟨i + 1, by exact ⟨by omega, fun j h3 => (Nat.lt_succ_iff_lt_or_eq.1 h3).elim (hj j) (fun e => e ▸ h2)⟩, by first | omega | (dsimp only at *; omega), Weak.kp⟩
 intro h
 have h : i = 4 := by simp at h; omega
 subst h
 refine Trip.exit ?_
 rw [wordK_none k hj]
 refine Trip.sr tblOk ?_
 refine Trip.ret (rt1 [])
theorem cKind2 (w : Str) : Ctr prog 90 [sV w] [] (iV (kindW w)) [] [] := by
 refine Ctr.enter tblOk func90 rfl (by decide) rfl (nt := 13) rfl rfl rfl rfl ?_
 refine Trip.sr tblOk ?_
 refine Trip.seq (Trip.sr tblOk ?_)
 refine Trip.block ?_
 refine Trip.loop (fun (k : Nat) => ⟨[(0, sV w), (3, iV k)], []⟩) (fun (k : Nat) => 1 ≤ k ∧ k ≤ 5 ∧ ∀ j : Nat, 1 ≤ j → j < k → wordK (j : Int) ≠ w) (fun (k : Nat) => 5 - k) (1) (by exact ⟨by omega, by omega, fun j hj hj2 => absurd hj (by omega)⟩) Weak.kp ?_
 intro k hk
 obtain ⟨hk1, hk2, hj⟩ := hk
 refine Trip.seq (Trip.sr tblOk ?_)
 apply Trip.cond (.tmp rfl)
 ·intro h
  have h : k ≤ 4 := by simp at h; omega
  obtain ⟨hkw, _⟩ := kindW_wordK k hk1 h
  have c := cWord2 (k : Int)
  generalize hw2 : wordK (k : Int) = w2 at *
  refine Trip.skip (Trip.seq (Trip.block (Trip.sR tblOk (by repeat' (first | exact rfl | (apply Rule.sem; intro hγ; with_reducible apply F_call0 (x := .func 81) (B := []) hγ (hspec := c)) | ((with_reducible refine Side.mk ?_); exact .inl rfl) | constructor)) ?_)))
  apply Trip.cond (.tmp rfl)
  ·intro h2
   have h2 : w2 = w := by simpa using h2
   rw [← h2, hkw]
   refine Trip.sr tblOk ?_
   refine Trip.ret (rt1 [])
  intro h2
  have h2 : ¬ w2 = w := by simpa using h2
  refine Trip.skip (Trip.R tblOk (by repeat' (first | exact rfl | ((with_reducible refine Side.mk ?_); omega) | constructor)) ?_)
  exact ⟨k + 1, by exact ⟨by omega, by omega, fun j h4 h3 => (Nat.lt_succ_iff_lt_or_eq.1 h3).elim (hj j h4) (fun e => by rw [e, hw2]; exact h2)⟩, by first | omega | (dsimp only at *; omega), Weak.kp⟩
 intro h
 have h : k = 5 := by simp at h; omega
 subst h
 refine Trip.exit ?_
 rw [kindW_none w hj]
 refine Trip.sr tblOk ?_
 refine Trip.ret (rt1 [])
theorem cDigits14 (n : Nat) (hn : n ≤ 1000000000000) : Ctr prog 82 [iV n] [] (sV (Lib.decDigits n)) [] [] := by
 refine Ctr.enter tblOk func82 rfl (by decide) rfl (nt := 32) rfl rfl rfl rfl ?_
 refine Trip.sr tblOk ?_
 refine Trip.sr tblOk ?_
 refine Trip.seq (Trip.sr tblOk ?_)
 refine Trip.block ?_
 refine Trip.loop (fun (i : Nat × Str) => ⟨[(0, iV n), (3, sV i.2), (4, iV i.1)], []⟩) (fun (i : Nat × Str) => i.2.length + i.1 ≤ n + 1 ∧ (i.2 = [] → i.1 = n) ∧ (i.2 ≠ [] → (if i.1 = 0 then i.2 else Lib.decDigits i.1 ++ i.2) = Lib.decDigits n)) (fun (i : Nat × Str) => 2 * i.1 + (if i.2 = [] then 1 else 0)) ((n, [])) (by exact ⟨by simp, fun _ => rfl, fun h => absurd rfl h⟩) Weak.kp ?_
 intro i hi
 obtain ⟨k, t⟩ := i
 obtain ⟨hi1, hi2, hi3⟩ := hi
 dsimp only at *
 refine Trip.seq (Trip.sR tblOk (by repeat' (first | exact rfl | ((with_reducible refine Side.mk ?_); first | exact fun h => h | exact fun _ h => congrArg Bool.not h) | constructor)) ?_)
 apply Trip.cond (.tmp rfl)
 ·intro h
  have h : k ≠ 0 ∨ t = [] := by
   by_cases hk : k = 0
   ·subst hk; right; simpa using h
   ·exact .inl hk
  have hne : (if UInt8.ofNat (48 + k % 10) :: t = [] then 1 else 0) = (0 : Nat) := if_neg (by simp)
  have e1 := dig_val k
  have e0 := dig_max k
  have hst := dec_step k t
  have hm : (UInt8.ofNat (48 + k % 10) :: t).length + k / 10 ≤ n + 1 := by
   simp only [List.length_cons]
   rcases h with h | h
   ·omega
   ·rw [h] at hi1 ⊢; simp at hi1 ⊢; omega
  have hfin : (if k / 10 = 0 then UInt8.ofNat (48 + k % 10) :: t else Lib.decDigits (k / 10) ++ UInt8.ofNat (48 + k % 10) :: t) = Lib.decDigits n := by
   rw [hst]
   by_cases ht : t = []
   ·rw [ht, hi2 ht, List.append_nil]
   ·have := hi3 ht
    rcases h with h | h
    ·rw [if_neg h] at this; exact this
    ·exact absurd h ht
  have hmu : 2 * (k / 10) + 0 < 2 * k + (if t = [] then 1 else 0) := by
   rcases h with h | h
   ·omega
   ·rw [if_pos h]; omega
  refine Trip.skip ?_
  refine Trip.seqk ⟨[(0, iV n), (3, sV (UInt8.ofNat (48 + k % 10) :: t)), (4, iV k)], []⟩ ?_ ?_
  ·refine Trip.block ?_
   refine Trip.rk ⟨[(0, iV n), (3, sV t), (4, iV k), (5, iV ((k % 10 : Nat) : Int))], []⟩ tblOk (by repeat' (first | exact rfl | ((with_reducible refine Side.mk ?_); omega) | constructor)) Weak.kp ?_
   refine Trip.R tblOk (by repeat' (first | exact rfl | (apply Rule.sem; intro hγ; with_reducible apply F_max hγ) | (apply Rule.sem; intro hγ; with_reducible apply F_bytesToString (dst := some 24) (l := ([UInt8.ofNat (48 + k % 10)])) tblOk hγ) | ((with_reducible refine Side.mk ?_); first | omega | (simp only [ln]; first | done | omega) | exact congrArg (fun z : Int => [PV.v (.int .u8 z)]) e1) | constructor)) ?_
   exact Weak.kp
  refine Trip.R tblOk (by repeat' (first | exact rfl | ((with_reducible refine Side.mk ?_); omega) | constructor)) ?_
  exact ⟨(k / 10, UInt8.ofNat (48 + k % 10) :: t), by exact ⟨hm, fun h => absurd h (by simp), fun _ => hfin⟩, by first | omega | (dsimp only at *; omega), Weak.kp⟩
 intro h
 have h : k = 0 ∧ t ≠ [] := by
  by_cases hk : k = 0
  ·subst hk; exact ⟨rfl, by simpa using h⟩
  ·exfalso; simp [hk] at h
 have hd := hi3 h.2
 rw [if_pos h.1] at hd
 rw [← hd]
 refine Trip.exit (Trip.seq (Trip.sr tblOk ?_))
 apply Trip.cond (.tmp rfl)
 ·intro h2
  exfalso
  simp at h2
  omega
 intro h2
 refine Trip.skip (Trip.sr tblOk ?_)
 refine Trip.ret (rt1 [])
end Go.Proofs.Tryz
