/- A part of the proof: Gh, Gi. -/
import Derived.Test.YtbnnmnbidkpmcaaGreatDoorPart23
set_option linter.unusedVariables false
set_option linter.unusedSimpArgs false
namespace Go.Proofs.Tryz
open Go Go.Sym Go.Graft
set_option maxRecDepth 20000
def w16 (b : Str) (i : Nat) : List W32 := (List.range i).map (wd b)
theorem w16_len (b : Str) (i : Nat) : (w16 b i).length = i := by simp [w16]
theorem w16_succ (b : Str) (i : Nat) (hb : b.length = 64) (hi : i < 16) : w16 b (i + 1) = w16 b i ++ [BitVec.ofNat 32 (b.getD (4 * (i : Int)).toNat 0).toNat <<< 24 ||| BitVec.ofNat 32 (b.getD (4 * (i : Int) + 1).toNat 0).toNat <<< 16 ||| BitVec.ofNat 32 (b.getD (4 * (i : Int) + 2).toNat 0).toNat <<< 8 ||| BitVec.ofNat 32 (b.getD (4 * (i : Int) + 3).toNat 0).toNat] := by
 rw [w16, List.range_succ, List.map_append, be32_or]
 congr 1
 simp only [List.map_cons, List.map_nil, wd, getD_bang]
 rw [show (4 * (i : Int)).toNat = 4 * i by omega, show (4 * (i : Int) + 1).toNat = 4 * i + 1 by omega, show (4 * (i : Int) + 2).toNat = 4 * i + 2 by omega, show (4 * (i : Int) + 3).toNat = 4 * i + 3 by omega]
set_option maxHeartbeats 4000000 in
theorem cBlock (h w : List W32) (b : Str) (hh : h.length = 8) (hw : w.length = 64) (hb : b.length = 64) : Ctr prog 155 [.ref PN 0, sV b] [.box ((h ++ w).map wV)] (.tup []) [.box ((comp h b ++ wsN b 48).map wV)] [] := by
 have ec : comp h b = List.zipWith (· + ·) h (rdN (wsN b 48) h 64) := rfl
 have c6 : ∀ x, Ctr prog 188 [wV x, iV 6] [] (wV (rotr x 6)) [] [] := fun x => cTurn x 6 (by omega) (by omega)
 have c7 : ∀ x, Ctr prog 188 [wV x, iV 7] [] (wV (rotr x 7)) [] [] := fun x => cTurn x 7 (by omega) (by omega)
 have c11 : ∀ x, Ctr prog 188 [wV x, iV 11] [] (wV (rotr x 11)) [] [] := fun x => cTurn x 11 (by omega) (by omega)
 have c25 : ∀ x, Ctr prog 188 [wV x, iV 25] [] (wV (rotr x 25)) [] [] := fun x => cTurn x 25 (by omega) (by omega)
 have c2 : ∀ x, Ctr prog 188 [wV x, iV 2] [] (wV (rotr x 2)) [] [] := fun x => cTurn x 2 (by omega) (by omega)
 have c13 : ∀ x, Ctr prog 188 [wV x, iV 13] [] (wV (rotr x 13)) [] [] := fun x => cTurn x 13 (by omega) (by omega)
 have c22 : ∀ x, Ctr prog 188 [wV x, iV 22] [] (wV (rotr x 22)) [] [] := fun x => cTurn x 22 (by omega) (by omega)
 have c17 : ∀ x, Ctr prog 188 [wV x, iV 17] [] (wV (rotr x 17)) [] [] := fun x => cTurn x 17 (by omega) (by omega)
 have c18 : ∀ x, Ctr prog 188 [wV x, iV 18] [] (wV (rotr x 18)) [] [] := fun x => cTurn x 18 (by omega) (by omega)
 have c19 : ∀ x, Ctr prog 188 [wV x, iV 19] [] (wV (rotr x 19)) [] [] := fun x => cTurn x 19 (by omega) (by omega)
 refine Ctr.enter tblOk func155 rfl (by decide) rfl (nt := 213) rfl rfl rfl rfl ?_
 refine Trip.sR tblOk (by repeat' (first | exact rfl | (apply Rule.sem; intro hγ; with_reducible apply F_nilCheck hγ) | constructor)) ?_
 refine Trip.seq (Trip.sr tblOk ?_)
 refine Trip.block ?_
 refine Trip.loop (fun (i : Nat) => ⟨[(0, .ref PN 0), (1, sV b), (4, .ref PN 8), (21, iV i)], [(PN, .box ((h ++ (w16 b i ++ w.drop i)).map wV))]⟩) (fun (i : Nat) => i ≤ 16) (fun (i : Nat) => 16 - i) (0) (by first | omega | (simp; done)) (Weak.kp (huo := by repeat' (first | exact usesOnlyL_map _ (fun _ => rfl) _ | constructor))) ?_
 intro i hi
 have hl := w16_len b i
 have hsu := w16_succ b i hb
 refine Trip.sr tblOk ?_
 refine Trip.seq ?_
 apply Trip.cond (.tmp rfl)
 ·intro hlt
  have hlt : i < 16 := by simp at hlt; omega
  have hsu := hsu hlt
  refine Trip.skip ?_
  refine Trip.seqk ⟨[(0, .ref PN 0), (1, sV b), (4, .ref PN 8), (21, iV i)], [(PN, .box ((h ++ (w16 b (i + 1) ++ w.drop (i + 1))).map wV))]⟩ ?_ ?_
  ·refine Trip.block (Trip.sr tblOk ?_)
   refine Trip.D tblOk mixed (by repeat' (first | exact rfl | (with_reducible apply binW_or) | (with_reducible apply binW_shl) | (with_reducible apply convW8) | (apply Rule.sem; intro hγ; with_reducible apply F_nilCheck hγ) | exact spliceSet (by simp only [List.length_map, List.length_append, List.length_drop, Int.toNat_natCast]; omega) | ((with_reducible refine Side.mk ?_); omega) | constructor)) ?_
   exact Weak.kp (ho := by repeat' (first | exact rfl | (rw [set_mid h (w16 b i) w _ i _ (by simp only [Int.toNat_natCast]; omega) hl (by omega), hsu]; rfl) | constructor)) (huo := by repeat' (first | exact usesOnlyL_map _ (fun _ => rfl) _ | constructor))
  refine Trip.R tblOk (by repeat' (first | exact rfl | ((with_reducible refine Side.mk ?_); omega) | constructor)) ?_
  exact ⟨i + 1, by first | omega | (dsimp only at *; omega), by first | omega | (dsimp only at *; omega), Weak.kp (huo := by repeat' (first | exact usesOnlyL_map _ (fun _ => rfl) _ | constructor))⟩
 intro hlt
 have hlt : i = 16 := by simp at hlt; omega
 subst hlt
 refine Trip.exit (Trip.seq (Trip.sr tblOk ?_))
 refine Trip.block ?_
 have e16 : w16 b 16 = wsN b 0 := rfl
 rw [e16]
 refine Trip.loop (fun (k : Nat) => ⟨[(0, .ref PN 0), (4, .ref PN 8), (6, iV (16 + k))], [(PN, .box ((h ++ (wsN b k ++ w.drop (16 + k))).map wV))]⟩) (fun (k : Nat) => k ≤ 48) (fun (k : Nat) => 48 - k) (0) (by first | omega | (simp; done)) (Weak.kp (huo := by repeat' (first | exact usesOnlyL_map _ (fun _ => rfl) _ | constructor))) ?_
 intro k hk
 have hl := wsN_length b k
 have hsu := wsN_succ b k
 refine Trip.seq (Trip.sr tblOk ?_)
 apply Trip.cond (.tmp rfl)
 ·intro hlt
  have hlt : k < 48 := by have : (16 + (k : Int)) < 64 := by simpa using hlt
                          omega
  have n15 := nth_mid (f := wV) h (wsN b k) (w.drop (16 + k)) (1 + k) (8 + (16 + (k : Int) - 15).toNat * 1) (by omega) (by omega)
  have n2 := nth_mid (f := wV) h (wsN b k) (w.drop (16 + k)) (14 + k) (8 + (16 + (k : Int) - 2).toNat * 1) (by omega) (by omega)
  have n7 := nth_mid (f := wV) h (wsN b k) (w.drop (16 + k)) (9 + k) (8 + (16 + (k : Int) - 7).toNat * 1) (by omega) (by omega)
  have n16 := nth_mid (f := wV) h (wsN b k) (w.drop (16 + k)) k (8 + (16 + (k : Int) - 16).toNat * 1) (by omega) (by omega)
  have hset := fun x => set_mid (f := wV) h (wsN b k) w x (16 + k) (8 + (16 + (k : Int)).toNat * 1) (by omega) hl (by omega)
  generalize hw2 : wsN b (k + 1) = ws2 at *
  generalize wsN b k = ws at *
  refine Trip.skip ?_
  refine Trip.seqk ⟨[(0, .ref PN 0), (4, .ref PN 8), (6, iV (16 + k))], [(PN, .box ((h ++ (ws2 ++ w.drop (16 + (k + 1)))).map wV))]⟩ ?_ ?_
  ·refine Trip.block ?_
   refine Trip.dk ⟨[(0, .ref PN 0), (4, .ref PN 8), (6, iV (16 + k)), (7, wV ws[1 + k]!), (8, wV ws[14 + k]!)], [(PN, .box ((h ++ (ws ++ w.drop (16 + k))).map wV))]⟩ tblOk mixed (by repeat' (first | exact rfl | (apply Rule.sem; intro hγ; with_reducible apply F_nilCheck hγ) | exact n15 | exact n2 | ((with_reducible refine Side.mk ?_); omega) | constructor)) (Weak.kp (huo := by repeat' (first | exact usesOnlyL_map _ (fun _ => rfl) _ | constructor))) ?_
   refine Trip.D tblOk mixed (by repeat' (first | exact rfl | (apply Rule.sem; intro hγ; with_reducible apply F_nilCheck hγ) | (with_reducible apply binW_add) | (with_reducible apply binW_xor) | (with_reducible apply binW_shr) | exact n7 | exact n16 | (apply Rule.sem; intro hγ; with_reducible apply F_call0 (dst := some 77) (x := .func 188) (B := []) hγ (hspec := (c17 _))) | (apply Rule.sem; intro hγ; with_reducible apply F_call0 (dst := some 79) (x := .func 188) (B := []) hγ (hspec := (c19 _))) | (apply Rule.sem; intro hγ; with_reducible apply F_call0 (dst := some 92) (x := .func 188) (B := []) hγ (hspec := (c7 _))) | (apply Rule.sem; intro hγ; with_reducible apply F_call0 (dst := some 94) (x := .func 188) (B := []) hγ (hspec := (c18 _))) | exact spliceSet (by simp only [List.length_map, List.length_append, List.length_drop]; omega) | ((with_reducible refine Side.mk ?_); first | omega | exact .inl rfl) | constructor)) ?_
   exact Weak.kp (ho := by repeat' (first | exact rfl | (rw [hset, hsu]; rfl) | constructor)) (huo := by repeat' (first | exact usesOnlyL_map _ (fun _ => rfl) _ | constructor))
  refine Trip.R tblOk (by repeat' (first | exact rfl | ((with_reducible refine Side.mk ?_); omega) | constructor)) ?_
  exact ⟨k + 1, by first | omega | (dsimp only at *; omega), by first | omega | (dsimp only at *; omega), Weak.kp (ho := by repeat' (first | exact rfl | (rw [hw2]; rfl) | constructor)) (huo := by repeat' (first | exact usesOnlyL_map _ (fun _ => rfl) _ | constructor))⟩
 intro hlt
 have hlt : k = 48 := by have : ¬ (16 + (k : Int)) < 64 := by simpa using hlt
                         omega
 subst hlt
 have ed : w.drop (16 + 48) = [] := List.drop_eq_nil_of_le (by omega)
 rw [ed, List.append_nil]
 rw [ec]
 have hrl := rdN_len (wsN b 48) h hh
 have hr0 : rdN (wsN b 48) h 0 = h := rfl
 have hrs : ∀ t, rdN (wsN b 48) h (t + 1) = rnd keys[t]! (wsN b 48)[t]! (rdN (wsN b 48) h t) := fun _ => rfl
 generalize wsN b 48 = ws at *
 refine Trip.exit (Trip.sR tblOk (by repeat' (first | exact rfl | (apply Rule.sem; intro hγ; with_reducible apply F_nilCheck hγ) | exact takeHd wV hh | exact beqLen (cs := h.map wV) (by simp [hh]) | exact cellsOkL_map wV (fun _ => rfl) h | exact spliceAll (by show (h.map wV).length = 8; simp [hh]) | constructor)) ?_)
 refine Trip.seq (Trip.sr tblOk ?_)
 refine Trip.block ?_
 refine Trip.loop (fun (t : Nat) => ⟨[(0, .ref PN 0), (4, .ref PN 8), (9, .ref 9 0), (113, iV t)], [(PN, .box ((h ++ ws).map wV)), (9, .box ((rdN ws h t).map wV))]⟩) (fun (t : Nat) => t ≤ 64) (fun (t : Nat) => 64 - t) (0) (by first | omega | (simp; done)) (Weak.kp (huo := by repeat' (first | exact usesOnlyL_map _ (fun _ => rfl) _ | constructor))) ?_
 intro t ht
 have hvl := hrl t
 have hrs := hrs t
 rw [rnd_eq _ _ _ hvl, BitVec.and_comm ((rdN ws h t)[4]!) ((rdN ws h t)[5]!), BitVec.and_comm (~~~(rdN ws h t)[4]!) ((rdN ws h t)[6]!)] at hrs
 refine Trip.sr tblOk ?_
 refine Trip.seq ?_
 apply Trip.cond (.tmp rfl)
 ·intro hlt
  have hlt : t < 64 := by have : (t : Int) < 64 := by simpa using hlt
                          omega
  generalize hv2 : rdN ws h (t + 1) = v2 at *
  generalize rdN ws h t = v at *
  have htab : HoldsAt prog gTable (0 + (t : Int).toNat * 1) (.int .u32 ((keys[t]!).toNat : Int)) := by
   have e : 0 + (t : Int).toNat * 1 = t := by omega
   rw [e]; exact table_at t hlt
  have nw := nth_tl (f := wV) h ws t (8 + (t : Int).toNat * 1) (by omega) (by omega)
  have q0 := nth_map wV v 0 (by omega); have q1 := nth_map wV v 1 (by omega); have q2 := nth_map wV v 2 (by omega); have q3 := nth_map wV v 3 (by omega)
  have q4 := nth_map wV v 4 (by omega); have q5 := nth_map wV v 5 (by omega); have q6 := nth_map wV v 6 (by omega); have q7 := nth_map wV v 7 (by omega)
  refine Trip.skip ?_
  refine Trip.seqk ⟨[(0, .ref PN 0), (4, .ref PN 8), (9, .ref 9 0), (113, iV t)], [(PN, .box ((h ++ ws).map wV)), (9, .box (v2.map wV))]⟩ ?_ ?_
  ·refine Trip.block ?_
   refine Trip.rk ⟨[(0, .ref PN 0), (4, .ref PN 8), (9, .ref 9 0), (113, iV t), (10, iV t)], [(PN, .box ((h ++ ws).map wV)), (9, .box (v.map wV))]⟩ tblOk (by repeat' (first | exact rfl | constructor)) (Weak.kp (huo := by repeat' (first | exact usesOnlyL_map _ (fun _ => rfl) _ | constructor))) ?_
   refine Trip.dk ⟨[(0, .ref PN 0), (4, .ref PN 8), (9, .ref 9 0), (113, iV t), (10, iV t), (11, wV v[0]!), (12, wV v[4]!)], [(PN, .box ((h ++ ws).map wV)), (9, .box (v.map wV))]⟩ tblOk mixed (by repeat' (first | exact rfl | exact q0 | exact q4 | ((with_reducible refine Side.mk ?_); omega) | constructor)) (Weak.kp (huo := by repeat' (first | exact usesOnlyL_map _ (fun _ => rfl) _ | constructor))) ?_
   refine Trip.rk ⟨[(0, .ref PN 0), (4, .ref PN 8), (9, .ref 9 0), (113, iV t), (10, iV t), (11, wV v[0]!), (12, wV v[4]!), (13, wV ((v[5]! &&& v[4]!) ^^^ (v[6]! &&& ~~~v[4]!)))], [(PN, .box ((h ++ ws).map wV)), (9, .box (v.map wV))]⟩ tblOk (by repeat' (first | exact rfl | exact q5 | exact q6 | (with_reducible apply binW_xor) | (with_reducible apply binW_and) | (with_reducible apply binW_andNot) | ((with_reducible refine Side.mk ?_); omega) | constructor)) (Weak.kp (huo := by repeat' (first | exact usesOnlyL_map _ (fun _ => rfl) _ | constructor))) ?_
   refine Trip.rk ⟨[(0, .ref PN 0), (4, .ref PN 8), (9, .ref 9 0), (113, iV t), (10, iV t), (11, wV v[0]!), (12, wV v[4]!), (13, wV ((v[5]! &&& v[4]!) ^^^ (v[6]! &&& ~~~v[4]!))), (14, wV ((v[0]! &&& v[1]!) ^^^ (v[0]! &&& v[2]!) ^^^ (v[1]! &&& v[2]!)))], [(PN, .box ((h ++ ws).map wV)), (9, .box (v.map wV))]⟩ tblOk (by repeat' (first | exact rfl | exact q1 | exact q2 | (with_reducible apply binW_xor) | (with_reducible apply binW_and) | ((with_reducible refine Side.mk ?_); omega) | constructor)) (Weak.kp (huo := by repeat' (first | exact usesOnlyL_map _ (fun _ => rfl) _ | constructor))) ?_
   refine Trip.dk ⟨[(0, .ref PN 0), (4, .ref PN 8), (9, .ref 9 0), (113, iV t), (11, wV v[0]!), (12, wV v[4]!), (14, wV ((v[0]! &&& v[1]!) ^^^ (v[0]! &&& v[2]!) ^^^ (v[1]! &&& v[2]!))), (15, wV (v[7]! + bs1 v[4]! + ((v[5]! &&& v[4]!) ^^^ (v[6]! &&& ~~~v[4]!)) + keys[t]! + ws[t]!))], [(PN, .box ((h ++ ws).map wV)), (9, .box (v.map wV))]⟩ tblOk mixed (by repeat' (first | exact rfl | exact q7 | (apply Rule.sem; intro hγ; with_reducible apply F_nilCheck hγ) | (with_reducible apply binW_add) | (with_reducible apply binW_xor) | (apply Rule.sem; intro hγ; with_reducible apply F_indexGlob (x := .global _) tblOk hγ) | (apply Rule.sem; intro hγ; with_reducible apply F_loadGlob (dst := some 159) (hv := htab) tblOk hγ) | exact nw | (apply Rule.sem; intro hγ; with_reducible apply F_call0 (dst := some 147) (x := .func 188) (B := []) hγ (hspec := (c6 _))) | (apply Rule.sem; intro hγ; with_reducible apply F_call0 (dst := some 149) (x := .func 188) (B := []) hγ (hspec := (c11 _))) | (apply Rule.sem; intro hγ; with_reducible apply F_call0 (dst := some 152) (x := .func 188) (B := []) hγ (hspec := (c25 _))) | ((with_reducible refine Side.mk ?_); first | omega | exact .inl rfl) | constructor)) (Weak.kp (huo := by repeat' (first | exact usesOnlyL_map _ (fun _ => rfl) _ | constructor))) ?_
   refine Trip.rk ⟨[(0, .ref PN 0), (4, .ref PN 8), (9, .ref 9 0), (113, iV t), (11, wV v[0]!), (12, wV v[4]!), (15, wV (v[7]! + bs1 v[4]! + ((v[5]! &&& v[4]!) ^^^ (v[6]! &&& ~~~v[4]!)) + keys[t]! + ws[t]!)), (16, wV (bs0 v[0]! + ((v[0]! &&& v[1]!) ^^^ (v[0]! &&& v[2]!) ^^^ (v[1]! &&& v[2]!))))], [(PN, .box ((h ++ ws).map wV)), (9, .box (v.map wV))]⟩ tblOk (by repeat' (first | exact rfl | (with_reducible apply binW_add) | (with_reducible apply binW_xor) | (apply Rule.sem; intro hγ; with_reducible apply F_call0 (dst := some 168) (x := .func 188) (B := []) hγ (hspec := (c2 _))) | (apply Rule.sem; intro hγ; with_reducible apply F_call0 (dst := some 170) (x := .func 188) (B := []) hγ (hspec := (c13 _))) | (apply Rule.sem; intro hγ; with_reducible apply F_call0 (dst := some 173) (x := .func 188) (B := []) hγ (hspec := (c22 _))) | ((with_reducible refine Side.mk ?_); exact .inl rfl) | constructor)) (Weak.kp (huo := by repeat' (first | exact usesOnlyL_map _ (fun _ => rfl) _ | constructor))) ?_
   rw [hrs]
   refine Trip.R tblOk (by repeat' (first | exact rfl | exact q1 | exact q2 | exact q3 | exact q5 | exact q6 | (apply Rule.sem; intro hγ; with_reducible apply F_buildArr tblOk hγ) | (with_reducible apply binW_add) | exact spliceAll (by show 8 = (v.map wV).length; simp [hvl]) | ((with_reducible refine Side.mk ?_); omega) | constructor)) ?_
   exact Weak.kp (huo := by repeat' (first | exact rfl | exact usesOnlyL_map _ (fun _ => rfl) _ | constructor))
  refine Trip.R tblOk (by repeat' (first | exact rfl | ((with_reducible refine Side.mk ?_); omega) | constructor)) ?_
  exact ⟨t + 1, by first | omega | (dsimp only at *; omega), by first | omega | (dsimp only at *; omega), Weak.kp (ho := by repeat' (first | exact rfl | (rw [hv2]; rfl) | constructor)) (huo := by repeat' (first | exact usesOnlyL_map _ (fun _ => rfl) _ | constructor))⟩
 intro hlt
 have hlt : t = 64 := by have : ¬ (t : Int) < 64 := by simpa using hlt
                         omega
 subst hlt
 have hza := zw_all h (rdN ws h 64) hh hvl
 rw [← hza]
 have hz0 : zw h (rdN ws h 64) 0 = [] := rfl
 generalize rdN ws h 64 = v at *
 refine Trip.exit (Trip.sr tblOk ?_)
 refine Trip.block ?_
 refine Trip.loop (fun (i : Nat) => ⟨[(0, .ref PN 0), (9, .ref 9 0), (196, iV i)], [(PN, .box ((zw h v i ++ (h ++ ws).drop i).map wV)), (9, .box (v.map wV))]⟩) (fun (i : Nat) => i ≤ 8) (fun (i : Nat) => 8 - i) (0) (by first | omega | (simp; done)) (Weak.kp (huo := by repeat' (first | exact usesOnlyL_map _ (fun _ => rfl) _ | constructor))) ?_
 intro i hi
 have hzl := zw_len h v hh hvl i hi
 have hzs := zw_succ h v hh hvl i
 refine Trip.sr tblOk ?_
 refine Trip.seq ?_
 apply Trip.cond (.tmp rfl)
 ·intro hlt
  have hlt : i < 8 := by have : (i : Int) < 8 := by simpa using hlt
                         omega
  have hzs := hzs hlt
  have hlw : i < (h ++ ws).length := by rw [List.length_append]; omega
  have hhi : (h ++ ws)[i]! = h[i]! := by rw [getElem!_pos _ i hlw, getElem!_pos h i (by omega), List.getElem_append_left (by omega)]
  have n1 := nth_at (f := wV) (zw h v i) (h ++ ws) i (0 + (i : Int).toNat * 1) (by omega) hzl hlw
  have n2 := nth_map wV v (0 + (i : Int).toNat * 1) (by omega)
  have hset := fun x => set_at (f := wV) (zw h v i) (h ++ ws) x i (0 + (i : Int).toNat * 1) (by omega) hzl hlw
  have e0 : 0 + (i : Int).toNat * 1 = i := by omega
  generalize hz2 : zw h v (i + 1) = z2 at *
  generalize zw h v i = z at *
  refine Trip.skip ?_
  refine Trip.seqk ⟨[(0, .ref PN 0), (9, .ref 9 0), (196, iV i)], [(PN, .box ((z2 ++ (h ++ ws).drop (i + 1)).map wV)), (9, .box (v.map wV))]⟩ ?_ ?_
  ·refine Trip.block (Trip.sr tblOk ?_)
   refine Trip.D tblOk mixed (by repeat' (first | exact rfl | (apply Rule.sem; intro hγ; with_reducible apply F_nilCheck hγ) | (with_reducible apply binW_add) | exact n1 | exact n2 | exact spliceSet (by simp only [List.length_map, List.length_append, List.length_drop]; omega) | ((with_reducible refine Side.mk ?_); omega) | constructor)) ?_
   exact Weak.kp (ho := by repeat' (first | exact rfl | (rw [hset, hzs, hhi, e0]; rfl) | constructor)) (huo := by repeat' (first | exact usesOnlyL_map _ (fun _ => rfl) _ | constructor))
  refine Trip.R tblOk (by repeat' (first | exact rfl | ((with_reducible refine Side.mk ?_); omega) | constructor)) ?_
  exact ⟨i + 1, by first | omega | (dsimp only at *; omega), by first | omega | (dsimp only at *; omega), Weak.kp (ho := by repeat' (first | exact rfl | (rw [hz2]; rfl) | constructor)) (huo := by repeat' (first | exact usesOnlyL_map _ (fun _ => rfl) _ | constructor))⟩
 intro hlt
 have hlt : i = 8 := by have : ¬ (i : Int) < 8 := by simpa using hlt
                        omega
 subst hlt
 have ed : (h ++ ws).drop 8 = ws := by rw [← hh, List.drop_left]
 rw [ed]
 refine Trip.exit ?_
 apply Ret0
 ·repeat' constructor
 ·repeat' (first | exact rfl | constructor)
 ·repeat' (first | exact convL_plain (plainL_map _ (fun _ => rfl) _) | constructor)
end Go.Proofs.Tryz
namespace Go.Proofs.Tryz
open Go Go.Sym Go.Graft
set_option maxRecDepth 20000
theorem shr15 (c : UInt8) : Int.fdiv (c.toNat : Int) (2 ^ min (4 : Int).toNat (IntKind.bits .u8)) = ((c.toNat / 16 : Nat) : Int) ∧ bitOp .and .u8 (c.toNat : Int) 15 = ((c.toNat % 16 : Nat) : Int) := by
 have key : ∀ n : Fin 256, Int.fdiv (n.val : Int) (2 ^ min (4 : Int).toNat (IntKind.bits .u8)) = ((n.val / 16 : Nat) : Int) ∧ bitOp .and .u8 (n.val : Int) 15 = ((n.val % 16 : Nat) : Int) := by decide +kernel
 exact key ⟨c.toNat, c.toNat_lt⟩
theorem cHex (s : Str) (hs : s.length ≤ 1000000000) : Ctr prog 111 [sV s] [] (sV (hexOf s)) [] [] := by
 refine Ctr.enter tblOk func111 rfl (by decide) rfl (nt := 30) rfl rfl rfl rfl ?_
 refine Trip.sr tblOk ?_
 refine Trip.sR tblOk (by repeat' (first | exact rfl | (apply Rule.sem; intro hγ; with_reducible apply F_makeSlice tblOk hγ) | ((with_reducible refine Side.mk ?_); first | omega | (dsimp only; omega)) | constructor)) ?_
 refine Trip.seq (Trip.sr tblOk ?_)
 refine Trip.block ?_
 refine Trip.loop (fun (i : Nat) => ⟨[(0, sV s), (3, .osl 8 0 (2 * i) (2 * i)), (10, iV s.length), (11, iV i)], [(8, .arr 1 false ((hexOf (s.take i)).map u8V))]⟩) (fun (i : Nat) => i ≤ s.length) (fun (i : Nat) => s.length - i) (0) (by first | omega | (simp; done)) Weak.kp ?_
 intro i hi
 have hsn := hexOf_snoc s i
 have hl : (hexOf (s.take i)).length = 2 * i := by rw [hexOf_len, List.length_take]; omega
 generalize hB : hexOf (s.take (i + 1)) = B' at *
 refine Trip.sr tblOk ?_
 refine Trip.seq ?_
 apply Trip.cond (.tmp rfl)
 ·intro h
  have h : i < s.length := by simp at h; omega
  have hsn := hsn h
  generalize hexOf (s.take i) = B at *
  obtain ⟨e1, e2⟩ := shr15 (s.getD (i : Int).toNat 0)
  have hb := (s.getD (i : Int).toNat 0).toNat_lt
  rw [← Int.toNat_natCast i] at hsn
  refine Trip.skip ?_
  refine Trip.seqk ⟨[(0, sV s), (3, .osl 8 0 (2 * (i + 1)) (2 * (i + 1))), (10, iV s.length), (11, iV i)], [(8, .arr 1 false (B'.map u8V))]⟩ ?_ ?_
  ·refine Trip.block (Trip.sr tblOk ?_)
   refine Trip.D tblOk mixed (by repeat' (first | exact rfl | ((with_reducible refine Side.mk ?_); first | omega | (simp only [ln]; first | done | omega) | (simp only [ln] at *; first | done | omega)) | constructor)) ?_
   exact Weak.kp (ht := by repeat' (first | exact rfl | (refine Side.mk (oslE ?_ ?_) <;> (simp only [ln]; first | done | omega)) | constructor)) (ho := by repeat' (first | exact rfl | (refine arrE ?_; rw [e1, e2, hsn, List.map_append]; rfl) | constructor)) (huo := by repeat' (first | exact plainL_map _ (fun _ => rfl) _ | constructor))
  refine Trip.R tblOk (by repeat' (first | exact rfl | ((with_reducible refine Side.mk ?_); omega) | constructor)) ?_
  exact ⟨i + 1, by first | omega | (dsimp only at *; omega), by first | omega | (dsimp only at *; omega), Weak.kp (ho := by repeat' (first | exact rfl | (rw [hB]; rfl) | constructor)) (huo := by repeat' (first | exact plainL_map _ (fun _ => rfl) _ | constructor))⟩
 intro h
 have h : i = s.length := by simp at h; omega
 subst h
 have e8 : s.take s.length = s := List.take_of_length_le (by omega)
 rw [e8] at hl
 rw [e8]
 generalize hexOf s = B at *
 refine Trip.exit (Trip.sR tblOk (by repeat' (first | exact rfl | (apply Rule.sem; intro hγ; with_reducible apply F_bytesToString tblOk hγ) | ((with_reducible refine Side.mk ?_); (simp only [ln]; first | done | omega)) | constructor)) ?_)
 refine Trip.ret (rt1 [])
end Go.Proofs.Tryz
