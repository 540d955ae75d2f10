/- A part of the proof: GShb, Gb, Gc. -/
import Derived.Test.YtbnnmnbidkpmcaaGreatDoorPart19
set_option linter.unusedVariables false
set_option linter.unusedSimpArgs false
namespace Go.Graft
theorem be32_nat (a b c d : UInt8) : (be32 a b c d).toNat = ((a.toNat * 256 + b.toNat) * 256 + c.toNat) * 256 + d.toNat := by
 have := a.toNat_lt; have := b.toNat_lt; have := c.toNat_lt; have := d.toNat_lt
 simp [be32]; omega
theorem sh8 (a : UInt8) (n : Nat) (h : n ≤ 24) : (BitVec.ofNat 32 a.toNat <<< n).toNat = a.toNat * 2 ^ n := by
 have := a.toNat_lt
 have h1 : 2 ^ n ≤ 2 ^ 24 := Nat.pow_le_pow_right (by omega) h
 have h2 : a.toNat * 2 ^ n ≤ 255 * 2 ^ 24 := Nat.mul_le_mul (by omega) h1
 rw [BitVec.toNat_shiftLeft, Nat.shiftLeft_eq, BitVec.toNat_ofNat, Nat.mod_eq_of_lt (a := a.toNat) (by omega), Nat.mod_eq_of_lt (by omega)]
theorem be32_add (a b c d : UInt8) : BitVec.ofNat 32 a.toNat <<< 24 + BitVec.ofNat 32 b.toNat <<< 16 + BitVec.ofNat 32 c.toNat <<< 8 + BitVec.ofNat 32 d.toNat = be32 a b c d := by
 have := a.toNat_lt; have := b.toNat_lt; have := c.toNat_lt; have := d.toNat_lt
 apply BitVec.eq_of_toNat_eq
 rw [be32_nat]
 simp only [BitVec.toNat_add, sh8 _ _ (Nat.le_refl 24), sh8 _ 16 (by omega), sh8 _ 8 (by omega), BitVec.toNat_ofNat]
 omega
theorem or_add (x y n : Nat) (h : y < 2 ^ n) : (x * 2 ^ n) ||| y = x * 2 ^ n + y := by
 rw [Nat.mul_comm, Nat.two_pow_add_eq_or_of_lt h]
theorem be32_or (a b c d : UInt8) : BitVec.ofNat 32 a.toNat <<< 24 ||| BitVec.ofNat 32 b.toNat <<< 16 ||| BitVec.ofNat 32 c.toNat <<< 8 ||| BitVec.ofNat 32 d.toNat = be32 a b c d := by
 have := a.toNat_lt; have := b.toNat_lt; have := c.toNat_lt; have := d.toNat_lt
 apply BitVec.eq_of_toNat_eq
 rw [be32_nat]
 simp only [BitVec.toNat_or, sh8 _ _ (Nat.le_refl 24), sh8 _ 16 (by omega), sh8 _ 8 (by omega), BitVec.toNat_ofNat]
 rw [Nat.mod_eq_of_lt (a := d.toNat) (by omega)]
 rw [or_add a.toNat (b.toNat * 2 ^ 16) 24 (by omega)]
 rw [show a.toNat * 2 ^ 24 + b.toNat * 2 ^ 16 = (a.toNat * 2 ^ 8 + b.toNat) * 2 ^ 16 by omega]
 rw [or_add _ (c.toNat * 2 ^ 8) 16 (by omega)]
 rw [show (a.toNat * 2 ^ 8 + b.toNat) * 2 ^ 16 + c.toNat * 2 ^ 8 = ((a.toNat * 2 ^ 8 + b.toNat) * 2 ^ 8 + c.toNat) * 2 ^ 8 by omega]
 rw [or_add _ d.toNat 8 (by omega)]
theorem wsN_length (b : Str) : ∀ k, (wsN b k).length = 16 + k
 | 0 => by simp [wsN]
 | k + 1 => by simp [wsN, wsStep, wsN_length b k]; omega
theorem wsN_succ (b : Str) (k : Nat) : wsN b (k + 1) = wsN b k ++ [sg1 (wsN b k)[14 + k]! + (wsN b k)[9 + k]! + sg0 (wsN b k)[1 + k]! + (wsN b k)[k]!] := by
 show wsStep (wsN b k) = _
 rw [wsStep, wsN_length, show 16 + k - 2 = 14 + k by omega, show 16 + k - 7 = 9 + k by omega, show 16 + k - 15 = 1 + k by omega, show 16 + k - 16 = k by omega]
theorem getD_bang (l : Str) (i : Nat) : l[i]! = l.getD i 0 := by
 simp [List.getD_eq_getElem?_getD, getElem!_def]
 cases l[i]? <;> rfl
theorem blk_get (s : Str) (at_ i : Nat) (h : i < 64) : ((s.drop at_).take 64).getD i 0 = s.getD (at_ + i) 0 := by
 simp [List.getD_eq_getElem?_getD, List.getElem?_take, h]
theorem rnd_eq (k w : W32) (v : List W32) (h : v.length = 8) : rnd k w v = [(v[7]! + bs1 v[4]! + ((v[4]! &&& v[5]!) ^^^ (~~~v[4]! &&& v[6]!)) + k + w) + (bs0 v[0]! + ((v[0]! &&& v[1]!) ^^^ (v[0]! &&& v[2]!) ^^^ (v[1]! &&& v[2]!))), v[0]!, v[1]!, v[2]!, v[3]! + (v[7]! + bs1 v[4]! + ((v[4]! &&& v[5]!) ^^^ (~~~v[4]! &&& v[6]!)) + k + w), v[4]!, v[5]!, v[6]!] := by
 match v, h with
 | [a, b, c, d, e, f, g, h], _ => rfl
theorem zip8 (h v : List W32) (hh : h.length = 8) (hv : v.length = 8) : List.zipWith (· + ·) h v = [h[0]! + v[0]!, h[1]! + v[1]!, h[2]! + v[2]!, h[3]! + v[3]!, h[4]! + v[4]!, h[5]! + v[5]!, h[6]! + v[6]!, h[7]! + v[7]!] := by
 match h, v, hh, hv with
 | [a, b, c, d, e, f, g, h], [a', b', c', d', e', f', g', h'], _, _ => rfl
theorem rnd_len (k w : W32) (l : List W32) (h : l.length = 8) : (rnd k w l).length = 8 := by
 match l, h with
 | [a, b, c, d, e, f, g, h], _ => rfl
theorem rdN_len (ws h : List W32) (hh : h.length = 8) : ∀ t, (rdN ws h t).length = 8
 | 0 => hh
 | t + 1 => rnd_len _ _ _ (rdN_len ws h hh t)
theorem comp_len (h : List W32) (b : Str) (hh : h.length = 8) : (comp h b).length = 8 := by simp [comp, rdN_len _ _ hh, hh]
theorem foldB_len (l : Str) (h : List W32) (hh : h.length = 8) : ∀ k, (foldB l h k).length = 8
 | 0 => hh
 | k + 1 => comp_len _ _ (foldB_len l h hh k)
theorem be64_at (m j : Nat) (h : j ≤ 7) : IntKind.wrap .u8 (Int.fdiv (m : Int) (2 ^ min (8 * (7 - (j : Int))).toNat (IntKind.bits .u64))) = ((UInt8.ofNat (m / 256 ^ (7 - j))).toNat : Int) := by
 have e1 : (8 * (7 - (j : Int))).toNat = 8 * (7 - j) := by omega
 rw [e1, show IntKind.bits .u64 = 64 from rfl, Nat.min_eq_left (by omega)]
 have e2 : Int.fdiv (m : Int) (2 ^ (8 * (7 - j))) = ((m / 2 ^ (8 * (7 - j)) : Nat) : Int) := by
  rw [Int.fdiv_eq_ediv_of_nonneg _ (by exact_mod_cast Nat.zero_le _)]; simp
 rw [e2, Nat.pow_mul]
 simp [IntKind.wrap, IntKind.bits, IntKind.signed]
theorem zpad_ne (n i : Nat) (h : i < zpad n) : (n + (i + 1)) % 64 ≠ 56 := by unfold zpad at h; omega
theorem zpad_eq (n : Nat) : (n + (zpad n + 1)) % 64 = 56 := by unfold zpad; omega
theorem zpad_lt (n : Nat) : zpad n < 64 := by unfold zpad; omega
theorem padB_len (s : Str) : (padB s).length = 64 * ((padB s).length / 64) ∧ (padB s).length = s.length + (zpad s.length + 9) := by
 have h : (padB s).length = s.length + (zpad s.length + 9) := by simp [padB, tailB, be64]
 refine ⟨?_, h⟩
 rw [h]
 have := zpad_eq s.length
 omega
def beN (m j : Nat) : Str := (List.range j).map fun i => UInt8.ofNat (m / 256 ^ (7 - i))
theorem beN_zero (m : Nat) : beN m 0 = [] := rfl
theorem beN_len (m j : Nat) : (beN m j).length = j := by simp [beN]
theorem beN_eight (m : Nat) : beN m 8 = be64 m := rfl
theorem beN_succ (m j : Nat) : beN m (j + 1) = beN m j ++ [UInt8.ofNat (m / 256 ^ (7 - j))] := by
 rw [beN, List.range_succ, List.map_append]; rfl
theorem take_snoc {α : Type} [Inhabited α] (l : List α) (i : Nat) (h : i < l.length) : l.take (i + 1) = l.take i ++ [l[i]!] := by
 rw [List.take_add_one, List.getElem?_eq_getElem h, getElem!_pos l i h]; rfl
theorem flat_len : ∀ l : List W32, (l.flatMap bytes32).length = 4 * l.length
 | [] => rfl
 | x :: r => by rw [List.flatMap_cons, List.length_append, flat_len r]; simp [bytes32]; omega
theorem sha_len (s : Str) : (sha s).length = 32 := by rw [sha, flat_len, foldB_len _ _ rfl]
theorem set_mid {f : W32 → Go.Sym.PV} (h A w : List W32) (x : W32) (i k : Nat) (hk : k = h.length + i) (hA : A.length = i) (hw : i < w.length) : ((h ++ (A ++ w.drop i)).map f).set k (f x) = (h ++ ((A ++ [x]) ++ w.drop (i + 1))).map f := by
 subst hk
 rw [← List.map_set]
 congr 1
 rw [List.set_append_right _ _ (by omega), List.set_append_right _ _ (by omega)]
 rw [show h.length + i - h.length - A.length = 0 by omega]
 rw [List.drop_eq_getElem_cons hw]
 simp only [List.set_cons_zero, List.append_assoc, List.cons_append, List.nil_append]
theorem nth_mid {f : W32 → Go.Sym.PV} (h A w : List W32) (j k : Nat) (hk : k = h.length + j) (hj : j < A.length) : Go.Sym.nth ((h ++ (A ++ w)).map f) k = some (f A[j]!) := by
 subst hk
 rw [Go.Sym.nth_eq, List.getElem?_map, List.getElem?_append_right (by omega), List.getElem?_append_left (by omega), show h.length + j - h.length = j by omega, List.getElem?_eq_getElem hj, getElem!_pos A j hj]
 rfl
theorem nth_tl {f : W32 → Go.Sym.PV} (h w : List W32) (j k : Nat) (hk : k = h.length + j) (hj : j < w.length) : Go.Sym.nth ((h ++ w).map f) k = some (f w[j]!) := by
 subst hk
 rw [Go.Sym.nth_eq, List.getElem?_map, List.getElem?_append_right (by omega), show h.length + j - h.length = j by omega, List.getElem?_eq_getElem hj, getElem!_pos w j hj]
 rfl
theorem nth_at {f : W32 → Go.Sym.PV} (A w : List W32) (i k : Nat) (hk : k = i) (hA : A.length = i) (hi : i < w.length) : Go.Sym.nth ((A ++ w.drop i).map f) k = some (f w[i]!) := by
 subst hk
 have := nth_tl (f := f) A (w.drop k) 0 k (by omega) (by rw [List.length_drop]; omega)
 rw [this]
 rw [getElem!_pos _ 0 (by rw [List.length_drop]; omega), getElem!_pos w k hi]
 simp
theorem set_at {f : W32 → Go.Sym.PV} (A w : List W32) (x : W32) (i k : Nat) (hk : k = i) (hA : A.length = i) (hw : i < w.length) : ((A ++ w.drop i).map f).set k (f x) = ((A ++ [x]) ++ w.drop (i + 1)).map f := by
 have := set_mid (f := f) [] A w x i k (by simpa using hk) hA hw
 simpa using this
def zw (h v : List W32) (i : Nat) : List W32 := List.zipWith (· + ·) (h.take i) (v.take i)
theorem zw_len (h v : List W32) (hh : h.length = 8) (hv : v.length = 8) (i : Nat) (hi : i ≤ 8) : (zw h v i).length = i := by simp [zw, hh, hv]; omega
theorem zw_succ (h v : List W32) (hh : h.length = 8) (hv : v.length = 8) (i : Nat) (hi : i < 8) : zw h v (i + 1) = zw h v i ++ [h[i]! + v[i]!] := by
 have h1 : (h.take i).length = (v.take i).length := by rw [List.length_take, List.length_take, hh, hv]
 rw [zw, take_snoc h i (by omega), take_snoc v i (by omega), List.zipWith_append h1]
 rfl
theorem zw_all (h v : List W32) (hh : h.length = 8) (hv : v.length = 8) : zw h v 8 = List.zipWith (· + ·) h v := by
 rw [zw, List.take_of_length_le (by omega), List.take_of_length_le (by omega)]
theorem foldB_succ (l : Str) (h : List W32) (k : Nat) : foldB l h (k + 1) = List.zipWith (· + ·) (foldB l h k) (rdN (wsN ((l.drop (64 * k)).take 64) 48) (foldB l h k) 64) := rfl
def ww (p : Str) : Nat → List W32
 | 0 => List.replicate 64 0
 | k + 1 => wsN ((p.drop (64 * k)).take 64) 48
theorem ww_len (p : Str) : ∀ k, (ww p k).length = 64
 | 0 => by simp [ww]
 | k + 1 => by rw [ww, wsN_length]
theorem blk_len (p : Str) (k K : Nat) (h : p.length = 64 * K) (hk : k < K) : ((p.drop (64 * k)).take 64).length = 64 := by rw [List.length_take, List.length_drop]; omega
theorem blk_pre (s t : Str) (k : Nat) (h : 64 * (k + 1) ≤ s.length) : (s.take (((64 * k : Nat) : Int) + 64).toNat).drop ((64 * k : Nat) : Int).toNat = ((s ++ t).drop (64 * k)).take 64 := by
 rw [show (((64 * k : Nat) : Int) + 64).toNat = 64 * k + 64 by omega, show (((64 * k : Nat) : Int)).toNat = 64 * k by omega]
 rw [List.drop_append_of_le_length (by omega), List.take_append_of_le_length (by rw [List.length_drop]; omega), List.drop_take]
 congr 1; omega
end Go.Graft
namespace Go.Proofs.Tryz
open Go Go.Sym Go.Graft
set_option maxRecDepth 20000
theorem wd_snoc (s : Str) (a i : Nat) (h : i < 16) {x : W32} (hx : x = BitVec.ofNat 32 (s.getD ((a : Int) + 4 * (i : Int)).toNat 0).toNat <<< 24 + BitVec.ofNat 32 (s.getD ((a : Int) + 4 * (i : Int) + 1).toNat 0).toNat <<< 16 + BitVec.ofNat 32 (s.getD ((a : Int) + 4 * (i : Int) + 2).toNat 0).toNat <<< 8 + BitVec.ofNat 32 (s.getD ((a : Int) + 4 * (i : Int) + 3).toNat 0).toNat) :
  ((List.range i).map (wd ((s.drop a).take 64))).map wV ++ [wV x] = ((List.range (i + 1)).map (wd ((s.drop a).take 64))).map wV := by
 rw [List.range_succ, List.map_append, List.map_append]
 congr 2
 rw [hx, be32_add]
 simp only [wd, getD_bang, List.map_cons, List.map_nil]
 rw [blk_get _ _ _ (by omega), blk_get _ _ _ (by omega), blk_get _ _ _ (by omega), blk_get _ _ _ (by omega)]
 rw [show ((a : Int) + 4 * (i : Int)).toNat = a + 4 * i by omega, show ((a : Int) + 4 * (i : Int) + 1).toNat = a + (4 * i + 1) by omega, show ((a : Int) + 4 * (i : Int) + 2).toNat = a + (4 * i + 2) by omega, show ((a : Int) + 4 * (i : Int) + 3).toNat = a + (4 * i + 3) by omega]
theorem ws_snoc (b : Str) (k : Nat) {x : W32} (hx : x = sg1 (wsN b k)[14 + k]! + (wsN b k)[9 + k]! + sg0 (wsN b k)[1 + k]! + (wsN b k)[k]!) : (wsN b k).map wV ++ [wV x] = (wsN b (k + 1)).map wV := by
 rw [wsN_succ, hx, List.map_append]; rfl
theorem cWords2 (s : Str) (a : Nat) (h : a + 64 ≤ s.length) (hs : s.length ≤ 1000000000000) : Ctr prog 127 [sV s, iV a] [] (.sl false 1 ((wsN ((s.drop a).take 64) 48).map wV)) [] [] := by
 have c7 : ∀ x, Ctr prog 158 [wV x, iV 7] [] (wV (rotr x 7)) [] [] := fun x => cTurn2 x 7 (by omega)
 have c18 : ∀ x, Ctr prog 158 [wV x, iV 18] [] (wV (rotr x 18)) [] [] := fun x => cTurn2 x 18 (by omega)
 have c17 : ∀ x, Ctr prog 158 [wV x, iV 17] [] (wV (rotr x 17)) [] [] := fun x => cTurn2 x 17 (by omega)
 have c19 : ∀ x, Ctr prog 158 [wV x, iV 19] [] (wV (rotr x 19)) [] [] := fun x => cTurn2 x 19 (by omega)
 refine Ctr.enter tblOk func127 rfl (by decide) rfl (nt := 99) rfl rfl rfl rfl ?_
 refine Trip.sr tblOk ?_
 refine Trip.sr tblOk ?_
 refine Trip.seq (Trip.sr tblOk ?_)
 refine Trip.block ?_
 refine Trip.loop (fun (i : Nat) => ⟨[(0, sV s), (1, iV a), (5, .osl 13 0 i i), (6, iV i)], [(13, .arr 1 false (((List.range i).map (wd ((s.drop a).take 64))).map wV))]⟩) (fun (i : Nat) => i ≤ 16) (fun (i : Nat) => 16 - i) (0) (by first | omega | (simp; done)) Weak.kp ?_
 intro i hi
 refine Trip.seq (Trip.sr tblOk ?_)
 apply Trip.cond (.tmp rfl)
 ·intro h2
  have h2 : i < 16 := by have : (i : Int) < 16 := by simpa using h2
                         omega
  refine Trip.skip ?_
  refine Trip.seqk ⟨[(0, sV s), (1, iV a), (5, .osl 13 0 (i + 1) (i + 1)), (6, iV i)], [(13, .arr 1 false (((List.range (i + 1)).map (wd ((s.drop a).take 64))).map wV))]⟩ ?_ ?_
  ·refine Trip.block (Trip.sR tblOk (by repeat' (first | exact rfl | ((with_reducible refine Side.mk ?_); omega) | constructor)) ?_)
   refine Trip.D tblOk mixed (by repeat' (first | exact rfl | (with_reducible apply binW_add) | (with_reducible apply binW_shl) | (with_reducible apply convW8) | ((with_reducible refine Side.mk ?_); first | omega | (simp only [ln]; first | done | omega)) | constructor)) ?_
   exact Weak.kp (ht := by repeat' (first | exact rfl | (refine Side.mk (oslE ?_ ?_) <;> (simp only [ln]; first | done | omega)) | constructor)) (ho := by repeat' (first | exact rfl | exact arrE (wd_snoc s a i h2 rfl) | constructor)) (huo := by repeat' (first | exact plainL_map _ (fun _ => rfl) _ | constructor))
  refine Trip.R tblOk (by repeat' (first | exact rfl | ((with_reducible refine Side.mk ?_); omega) | constructor)) ?_
  exact ⟨i + 1, by first | omega | (dsimp only at *; omega), by first | omega | (dsimp only at *; omega), Weak.kp (huo := by repeat' (first | exact plainL_map _ (fun _ => rfl) _ | constructor))⟩
 intro h2
 have h2 : i = 16 := by have : ¬ (i : Int) < 16 := by simpa using h2
                        omega
 subst h2
 refine Trip.exit (Trip.seq (Trip.sr tblOk ?_))
 refine Trip.block ?_
 refine Trip.loop (fun (k : Nat) => ⟨[(5, .osl 13 0 (16 + k) (16 + k)), (8, iV (16 + k))], [(13, .arr 1 false ((wsN ((s.drop a).take 64) k).map wV))]⟩) (fun (k : Nat) => k ≤ 48) (fun (k : Nat) => 48 - k) (0) (by first | omega | (simp; done)) Weak.kp ?_
 intro k hk
 have hl := wsN_length ((s.drop a).take 64) k
 have hs2 := @ws_snoc ((s.drop a).take 64) k
 generalize (s.drop a).take 64 = b at *
 refine Trip.seq (Trip.sr tblOk ?_)
 apply Trip.cond (.tmp rfl)
 ·intro h2
  have h2 : k < 48 := by have : (16 + (k : Int)) < 64 := by simpa using h2
                         omega
  refine Trip.skip ?_
  refine Trip.seqk ⟨[(5, .osl 13 0 (16 + (k + 1)) (16 + (k + 1))), (8, iV (16 + k))], [(13, .arr 1 false ((wsN b (k + 1)).map wV))]⟩ ?_ ?_
  ·refine Trip.block ?_
   refine Trip.dk ⟨[(5, .osl 13 0 (16 + k) (16 + k)), (8, iV (16 + k)), (9, wV (wsN b k)[1 + k]!), (10, wV (wsN b k)[14 + k]!)], [(13, .arr 1 false ((wsN b k).map wV))]⟩ tblOk mixed (by repeat' (first | exact rfl | exact idx_map _ _ _ (by show _ < _; first | omega | (simp only [List.length_map] at *; omega)) | ((with_reducible refine Side.mk ?_); first | omega | (simp only [ln]; first | done | omega)) | constructor)) (Weak.kp (ht := by repeat' (first | exact rfl | exact congrArg (fun i => wV (wsN b k)[i]!) (show 0 + (16 + (k : Int) - 15).toNat = 1 + k by omega) | exact congrArg (fun i => wV (wsN b k)[i]!) (show 0 + (16 + (k : Int) - 2).toNat = 14 + k by omega) | constructor)) (huo := by repeat' (first | exact plainL_map _ (fun _ => rfl) _ | constructor))) ?_
   refine Trip.rk ⟨[(5, .osl 13 0 (16 + k) (16 + k)), (8, iV (16 + k)), (11, wV (sg0 (wsN b k)[1 + k]!)), (10, wV (wsN b k)[14 + k]!)], [(13, .arr 1 false ((wsN b k).map wV))]⟩ tblOk (by repeat' (first | exact rfl | (apply Rule.sem; intro hγ; with_reducible apply F_call0 (dst := some 65) (x := .func 158) (B := []) hγ (hspec := (c7 _))) | (apply Rule.sem; intro hγ; with_reducible apply F_call0 (dst := some 67) (x := .func 158) (B := []) hγ (hspec := (c18 _))) | (with_reducible apply binW_xor) | (with_reducible apply binW_shr) | ((with_reducible refine Side.mk ?_); exact .inl rfl) | constructor)) (Weak.kp (huo := by repeat' (first | exact plainL_map _ (fun _ => rfl) _ | constructor))) ?_
   refine Trip.rk ⟨[(5, .osl 13 0 (16 + k) (16 + k)), (8, iV (16 + k)), (11, wV (sg0 (wsN b k)[1 + k]!)), (12, wV (sg1 (wsN b k)[14 + k]!))], [(13, .arr 1 false ((wsN b k).map wV))]⟩ tblOk (by repeat' (first | exact rfl | (apply Rule.sem; intro hγ; with_reducible apply F_call0 (dst := some 73) (x := .func 158) (B := []) hγ (hspec := (c17 _))) | (apply Rule.sem; intro hγ; with_reducible apply F_call0 (dst := some 75) (x := .func 158) (B := []) hγ (hspec := (c19 _))) | (with_reducible apply binW_xor) | (with_reducible apply binW_shr) | ((with_reducible refine Side.mk ?_); exact .inl rfl) | constructor)) (Weak.kp (huo := by repeat' (first | exact plainL_map _ (fun _ => rfl) _ | constructor))) ?_
   refine Trip.D tblOk mixed (by repeat' (first | exact rfl | (with_reducible apply binW_add) | exact idx_map _ _ _ (by show _ < _; first | omega | (simp only [List.length_map] at *; omega)) | ((with_reducible refine Side.mk ?_); first | omega | (simp only [ln]; first | done | omega)) | constructor)) ?_
   exact Weak.kp (ht := by repeat' (first | exact rfl | (refine Side.mk (oslE ?_ ?_) <;> (simp only [ln]; first | done | omega)) | constructor)) (ho := by repeat' (first | exact rfl | (refine arrE (hs2 ?_); rw [show 0 + (16 + (k : Int) - 7).toNat = 9 + k by omega, show 0 + (16 + (k : Int) - 16).toNat = k by omega]) | constructor)) (huo := by repeat' (first | exact plainL_map _ (fun _ => rfl) _ | constructor))
  refine Trip.R tblOk (by repeat' (first | exact rfl | ((with_reducible refine Side.mk ?_); omega) | constructor)) ?_
  exact ⟨k + 1, by first | omega | (dsimp only at *; omega), by first | omega | (dsimp only at *; omega), Weak.kp (huo := by repeat' (first | exact plainL_map _ (fun _ => rfl) _ | constructor))⟩
 intro h2
 have h2 : k = 48 := by have : ¬ (16 + (k : Int)) < 64 := by simpa using h2
                        omega
 subst h2
 generalize wsN b 48 = ws at *
 refine Trip.exit (Trip.sr tblOk ?_)
 refine Trip.ret (rt1 [13] (hc := by repeat' (first | exact rfl | exact plainL_map _ (fun _ => rfl) _ | (refine Side.mk ?_; simp only [ln]; first | done | omega) | constructor)))
end Go.Proofs.Tryz
namespace Go.Proofs.Tryz
open Go Go.Sym Go.Graft
set_option maxRecDepth 20000
theorem cFirst2 : Ctr prog 124 [] [] (.sl false 1 (first.map wV)) [] [] := by
 refine Ctr.enter tblOk func124 rfl (by decide) rfl (nt := 2) rfl rfl rfl rfl ?_
 refine Trip.sr tblOk ?_
 refine Trip.sr tblOk ?_
 refine Trip.ret (rt1 [1])
theorem cKeys2 : Ctr prog 125 [] [] (.sl false 1 (keys.map wV)) [] [] := by
 refine Ctr.enter tblOk func125 rfl (by decide) rfl (nt := 2) rfl rfl rfl rfl ?_
 refine Trip.sr tblOk ?_
 refine Trip.sr tblOk ?_
 refine Trip.ret (rt1 [1])
set_option maxHeartbeats 1000000 in
theorem cBlock2 (nl n2 n3 : Bool) (h ws ks : List W32) (hh : h.length = 8) (hw : ws.length = 64) (hk : ks.length = 64) (hks : ks = keys) : Ctr prog 126 [.sl nl 1 (h.map wV), .sl n2 1 (ws.map wV), .sl n3 1 (ks.map wV)] [] (.sl false 1 ((List.zipWith (· + ·) h (rdN ws h 64)).map wV)) [] [] := by
 have ct := fun x n => @cTurn2 x n
 have e0 : rdN ws h 0 = h := rfl
 have hid : ∀ i, i < 8 → (h.map wV)[i]? = some (wV h[i]!) := fun i hi => idx_map _ _ _ (by omega)
 have h0 := hid 0 (by omega); have h1 := hid 1 (by omega); have h2 := hid 2 (by omega); have h3 := hid 3 (by omega)
 have h4 := hid 4 (by omega); have h5 := hid 5 (by omega); have h6 := hid 6 (by omega); have h7 := hid 7 (by omega)
 have c6 : ∀ x, Ctr prog 158 [wV x, iV 6] [] (wV (rotr x 6)) [] [] := fun x => cTurn2 x 6 (by omega)
 have c11 : ∀ x, Ctr prog 158 [wV x, iV 11] [] (wV (rotr x 11)) [] [] := fun x => cTurn2 x 11 (by omega)
 have c25 : ∀ x, Ctr prog 158 [wV x, iV 25] [] (wV (rotr x 25)) [] [] := fun x => cTurn2 x 25 (by omega)
 have c2 : ∀ x, Ctr prog 158 [wV x, iV 2] [] (wV (rotr x 2)) [] [] := fun x => cTurn2 x 2 (by omega)
 have c13 : ∀ x, Ctr prog 158 [wV x, iV 13] [] (wV (rotr x 13)) [] [] := fun x => cTurn2 x 13 (by omega)
 have c22 : ∀ x, Ctr prog 158 [wV x, iV 22] [] (wV (rotr x 22)) [] [] := fun x => cTurn2 x 22 (by omega)
 refine Ctr.enter tblOk func126 rfl (by decide) rfl (nt := 148) rfl rfl rfl rfl ?_
 refine Trip.sr tblOk ?_
 refine Trip.sD tblOk mixed (by repeat' (first | exact rfl | exact idx_map _ _ _ (by show _ < _; first | omega | (simp only [List.length_map] at *; omega)) | ((with_reducible refine Side.mk ?_); (simp only [ln]; first | done | omega)) | constructor)) ?_
 refine Trip.sD tblOk mixed (by repeat' (first | exact rfl | exact idx_map _ _ _ (by show _ < _; first | omega | (simp only [List.length_map] at *; omega)) | ((with_reducible refine Side.mk ?_); (simp only [ln]; first | done | omega)) | constructor)) ?_
 refine Trip.seq (Trip.sr tblOk ?_)
 refine Trip.block ?_
 refine Trip.loop (fun (t : Nat) => ⟨[(0, .sl nl 1 (h.map wV)), (1, .sl n2 1 (ws.map wV)), (2, .sl n3 1 (ks.map wV)), (7, wV (rdN ws h t)[0]!), (8, wV (rdN ws h t)[1]!), (9, wV (rdN ws h t)[2]!), (10, wV (rdN ws h t)[3]!), (11, wV (rdN ws h t)[4]!), (12, wV (rdN ws h t)[5]!), (13, wV (rdN ws h t)[6]!), (14, wV (rdN ws h t)[7]!), (15, iV t)], []⟩) (fun (t : Nat) => t ≤ 64) (fun (t : Nat) => 64 - t) (0) (by first | omega | (simp; done)) Weak.kp ?_
 intro t ht
 have hr := rnd_eq keys[t]! ws[t]! (rdN ws h t) (rdN_len ws h hh t)
 have hr2 : rdN ws h (t + 1) = rnd keys[t]! ws[t]! (rdN ws h t) := rfl
 rw [hr] at hr2
 rw [← hks] at hr2
 generalize hv' : rdN ws h (t + 1) = v' at *
 refine Trip.seq (Trip.sr tblOk ?_)
 apply Trip.cond (.tmp rfl)
 ·intro hlt
  have hlt : t < 64 := by have : (t : Int) < 64 := by simpa using hlt
                          omega
  generalize rdN ws h t = v at *
  refine Trip.skip ?_
  refine Trip.seqk ⟨[(0, .sl nl 1 (h.map wV)), (1, .sl n2 1 (ws.map wV)), (2, .sl n3 1 (ks.map wV)), (7, wV v'[0]!), (8, wV v'[1]!), (9, wV v'[2]!), (10, wV v'[3]!), (11, wV v'[4]!), (12, wV v'[5]!), (13, wV v'[6]!), (14, wV v'[7]!), (15, iV t)], []⟩ ?_ ?_
  ·refine Trip.block (Trip.sD tblOk mixed (by repeat' (first | exact rfl | (apply Rule.sem; intro hγ; with_reducible apply F_call0 (dst := some 48) (x := .func 158) (B := []) hγ (hspec := (c6 _))) | (apply Rule.sem; intro hγ; with_reducible apply F_call0 (dst := some 50) (x := .func 158) (B := []) hγ (hspec := (c11 _))) | (apply Rule.sem; intro hγ; with_reducible apply F_call0 (dst := some 53) (x := .func 158) (B := []) hγ (hspec := (c25 _))) | (with_reducible apply binW_add) | (with_reducible apply binW_xor) | (with_reducible apply binW_and) | (with_reducible apply unW_not) | exact idx_map _ _ _ (by show _ < _; first | omega | (simp only [List.length_map] at *; omega)) | ((with_reducible refine Side.mk ?_); first | exact .inl rfl | (simp only [ln]; first | done | omega)) | constructor)) ?_)
   refine Trip.sR tblOk (by repeat' (first | exact rfl | (apply Rule.sem; intro hγ; with_reducible apply F_call0 (dst := some 76) (x := .func 158) (B := []) hγ (hspec := (c2 _))) | (apply Rule.sem; intro hγ; with_reducible apply F_call0 (dst := some 78) (x := .func 158) (B := []) hγ (hspec := (c13 _))) | (apply Rule.sem; intro hγ; with_reducible apply F_call0 (dst := some 81) (x := .func 158) (B := []) hγ (hspec := (c22 _))) | (with_reducible apply binW_add) | (with_reducible apply binW_xor) | (with_reducible apply binW_and) | ((with_reducible refine Side.mk ?_); exact .inl rfl) | constructor)) ?_
   refine Trip.sr tblOk ?_
   refine Trip.sr tblOk ?_
   refine Trip.sr tblOk ?_
   refine Trip.sR tblOk (by repeat' (first | exact rfl | (with_reducible apply binW_add) | constructor)) ?_
   refine Trip.sr tblOk ?_
   refine Trip.sr tblOk ?_
   refine Trip.sr tblOk ?_
   refine Trip.R tblOk (by repeat' (first | exact rfl | (with_reducible apply binW_add) | constructor)) ?_
   rw [hr2]
   exact Weak.kp
  refine Trip.R tblOk (by repeat' (first | exact rfl | ((with_reducible refine Side.mk ?_); omega) | constructor)) ?_
  exact ⟨t + 1, by first | omega | (dsimp only at *; omega), by first | omega | (dsimp only at *; omega), Weak.kp (ht := by repeat' (first | exact rfl | (rw [hv']; rfl) | constructor))⟩
 intro hlt
 have hlt : t = 64 := by have : ¬ (t : Int) < 64 := by simpa using hlt
                         omega
 subst hlt
 have hz := zip8 h (rdN ws h 64) hh (rdN_len ws h hh 64)
 generalize rdN ws h 64 = v at *
 rw [hz]
 refine Trip.exit (Trip.sD tblOk mixed (by repeat' (first | exact rfl | (with_reducible apply binW_add) | exact idx_map _ _ _ (by show _ < _; first | omega | (simp only [List.length_map] at *; omega)) | ((with_reducible refine Side.mk ?_); (simp only [ln]; first | done | omega)) | constructor)) ?_)
 refine Trip.ret (rt1 [147])
end Go.Proofs.Tryz
