/- A part of the proof: Sd. -/
import Derived.Test.YtbnnmnbidkpmcaaGreatDoorPart46
set_option linter.unusedVariables false
set_option linter.unusedSimpArgs false
namespace Go.Proofs.Tryz
open Go Go.Sym Go.Graft
set_option maxRecDepth 20000
theorem oneDrop (X : List It) : ((X.map It.pv).take (X.map It.pv).length).drop 1 = (X.drop 1).map It.pv := by rw [List.take_length, List.map_drop]
set_option maxHeartbeats 1000000 in
theorem cUnion (na nb : Bool) (a b : List It) (ha : a.length ≤ 1000000000) (hb : b.length ≤ 1000000000) : Ctr prog 33 [stPV na a, stPV nb b] [] (.tup [stPV (unionL a b).isEmpty (unionL a b), iV (unionE a b)]) [] [] := by
 have hE : unionE a b = if uniC a b = true then 170 else if (65536 : Int) < (uni a b).length then 4 else 0 := rfl
 have hL : unionL a b = if unionE a b ≠ 0 then [] else uni a b := rfl
 generalize unionL a b = L at *
 generalize unionE a b = E at *
 refine Ctr.enter tblOk func33 rfl (by decide) rfl (nt := 103) rfl rfl rfl rfl ?_
 refine Trip.sr tblOk ?_
 refine Trip.sr tblOk ?_
 refine Trip.sD tblOk mixed (by repeat' (first | exact rfl | constructor)) ?_
 refine Trip.sr tblOk ?_
 refine Trip.seq (Trip.block ?_)
 apply Trip.loop (fun (x : List It × List It × List It × Bool) => ⟨[(4, .ref 4 0), (6, .osl 900 0 x.2.2.1.length x.2.2.1.length), (7, .sl na 3 (x.1.map It.pv)), (8, .sl nb 3 (x.2.1.map It.pv)), (9, bV x.2.2.2)], [(900, .arr 3 x.2.2.1.isEmpty (x.2.2.1.map It.pv)), (4, .box [nilS])]⟩) (fun (x : List It × List It × List It × Bool) => Uni a b x.1 x.2.1 x.2.2.1 x.2.2.2) (fun (x : List It × List It × List It × Bool) => x.1.length + x.2.1.length) ((a, b, [], false))
 ·exact Uni.zero a b
 ·refine Weak.trans (S2 := ⟨[(4, .ref 4 0), (6, nilS), (7, .sl na 3 (a.map It.pv)), (8, .sl nb 3 (b.map It.pv)), (9, bV false)], [(4, .box [nilS])]⟩) ?_ ?_
  ·exact Weak.kp
  ·exact Weak.adopt 900 3 rfl rfl (by repeat' (first | exact rfl | constructor)) (by repeat' (first | exact rfl | constructor))
 intro x hx
 obtain ⟨X, Y, F, c⟩ := x
 dsimp only at *
 have hlen := hx.2.2
 have lX1 : (X.drop 1).length = X.length - 1 := List.length_drop
 have lY1 : (Y.drop 1).length = Y.length - 1 := List.length_drop
 refine Trip.seq (Trip.sR tblOk (by repeat' (first | exact rfl | ((with_reducible refine Side.mk ?_); first | exact fun h => h | exact fun _ h => congrArg Bool.not h) | constructor)) ?_)
 apply Trip.cond (.tmp rfl)
 ·intro h
  have h : 0 < X.length ∨ 0 < Y.length := by simpa using h
  refine Trip.skip (Trip.block (Trip.block (Trip.sD tblOk mixed (by repeat' (first | exact rfl | (apply Rule.under tblOk; intro hγ; with_reducible apply Rule.indexAddr) | exact idx_map _ _ _ (by have h2 := hγ; simp only [gpick, cond_true, cond_false, decide_eq_true_eq, Bool.and_eq_true, Bool.or_eq_true, Bool.not_eq_true', Bool.not_eq_false', Bool.or_eq_false_iff, decide_eq_false_iff_not, List.length_map] at h2; show _ < _; omega) | ((with_reducible refine Side.mk ?_); first | exact fun h => h | exact fun _ h => congrArg Bool.not h | (intro h1 h2; rw [h1, h2]; rfl) | exact fun _ => hγ | (have h2 := hγ; simp only [gpick, cond_true, cond_false, decide_eq_true_eq, Bool.and_eq_true, Bool.or_eq_true, Bool.not_eq_true', Bool.not_eq_false', Bool.or_eq_false_iff, decide_eq_false_iff_not, List.length_map] at h2; (try simp only [List.length_map]); omega)) | constructor)) ?_)))
  apply Trip.cond (.tmp rfl)
  ·intro h2
   have h2 : (decide (((Y.map It.pv).length : Int) = 0) || (decide (0 < ((X.map It.pv).length : Int)) && Op.bytesLess X[0]!.id Y[0]!.id)) = true := h2
   rw [List.length_map, List.length_map] at h2
   simp only [Bool.or_eq_true, Bool.and_eq_true, decide_eq_true_eq] at h2
   have hX : 0 < X.length := by omega
   have hn := hx.left hX (by
    by_cases hY : Y.length = 0
    ·exact .inl hY
    ·exact .inr ⟨by omega, (h2.resolve_left (by omega)).2⟩)
   refine Trip.D tblOk mixed (by repeat' (first | exact rfl | (apply Rule.under tblOk; intro hγ; with_reducible apply Rule.indexAddr) | exact idx_map _ _ _ (by have h2 := hγ; simp only [gpick, cond_true, cond_false, decide_eq_true_eq, Bool.and_eq_true, Bool.or_eq_true, Bool.not_eq_true', Bool.not_eq_false', Bool.or_eq_false_iff, decide_eq_false_iff_not, List.length_map] at h2; show _ < _; omega) | ((first | with_reducible refine bokL ?_ | with_reducible refine Side.mk ?_); (simp only [ln]; first | done | omega)) | constructor)) ?_
   exact ⟨(X.drop 1, Y, F ++ [X[0]!], c), by exact hn, by first | omega | (dsimp only at *; omega), Weak.kp (ht := by repeat' (first | exact rfl | exact congrArg (PV.sl na 3) (oneDrop X) | (refine Side.mk (oslE ?_ ?_) <;> (simp only [ln]; first | done | omega)) | constructor)) (ho := by repeat' (first | exact rfl | exact arrF (by simp) (by simp) | constructor)) (huo := by repeat' (first | exact rfl | exact plainL_map _ (fun _ => rfl) _ | constructor))⟩
  intro h2
  have h2 : (decide (((Y.map It.pv).length : Int) = 0) || (decide (0 < ((X.map It.pv).length : Int)) && Op.bytesLess X[0]!.id Y[0]!.id)) = false := h2
  rw [List.length_map, List.length_map] at h2
  simp only [Bool.or_eq_false_iff, Bool.and_eq_false_iff, decide_eq_false_iff_not] at h2
  have hY : 0 < Y.length := by omega
  refine Trip.sD tblOk mixed (by repeat' (first | exact rfl | (apply Rule.under tblOk; intro hγ; with_reducible apply Rule.indexAddr) | exact idx_map _ _ _ (by have h2 := hγ; simp only [gpick, cond_true, cond_false, decide_eq_true_eq, Bool.and_eq_true, Bool.or_eq_true, Bool.not_eq_true', Bool.not_eq_false', Bool.or_eq_false_iff, decide_eq_false_iff_not, List.length_map] at h2; show _ < _; omega) | ((with_reducible refine Side.mk ?_); first | exact fun h => h | exact fun _ h => congrArg Bool.not h | (simp only [ln]; first | done | omega) | exact fun _ => hγ | (have h2 := hγ; simp only [gpick, cond_true, cond_false, decide_eq_true_eq, Bool.and_eq_true, Bool.or_eq_true, Bool.not_eq_true', Bool.not_eq_false', Bool.or_eq_false_iff, decide_eq_false_iff_not, List.length_map] at h2; (try simp only [List.length_map]); omega)) | constructor)) ?_
  apply Trip.cond (.tmp rfl)
  ·intro h3
   have h3 : (decide (((X.map It.pv).length : Int) = 0) || Op.bytesLess Y[0]!.id X[0]!.id) = true := h3
   rw [List.length_map] at h3
   simp only [Bool.or_eq_true, decide_eq_true_eq] at h3
   have hn := hx.right hY (by
    by_cases hX : X.length = 0
    ·exact .inl hX
    ·exact .inr ⟨by omega, h2.2.resolve_left (by omega), h3.resolve_left (by omega)⟩)
   refine Trip.D tblOk mixed (by repeat' (first | exact rfl | (apply Rule.under tblOk; intro hγ; with_reducible apply Rule.indexAddr) | exact idx_map _ _ _ (by have h2 := hγ; simp only [gpick, cond_true, cond_false, decide_eq_true_eq, Bool.and_eq_true, Bool.or_eq_true, Bool.not_eq_true', Bool.not_eq_false', Bool.or_eq_false_iff, decide_eq_false_iff_not, List.length_map] at h2; show _ < _; omega) | ((first | with_reducible refine bokL ?_ | with_reducible refine Side.mk ?_); (simp only [ln]; first | done | omega)) | constructor)) ?_
   exact ⟨(X, Y.drop 1, F ++ [Y[0]!], c), by exact hn, by first | omega | (dsimp only at *; omega), Weak.kp (ht := by repeat' (first | exact rfl | exact congrArg (PV.sl nb 3) (oneDrop Y) | (refine Side.mk (oslE ?_ ?_) <;> (simp only [ln]; first | done | omega)) | constructor)) (ho := by repeat' (first | exact rfl | exact arrF (by simp) (by simp) | constructor)) (huo := by repeat' (first | exact rfl | exact plainL_map _ (fun _ => rfl) _ | constructor))⟩
  intro h3
  have h3 : (decide (((X.map It.pv).length : Int) = 0) || Op.bytesLess Y[0]!.id X[0]!.id) = false := h3
  rw [List.length_map] at h3
  simp only [Bool.or_eq_false_iff, decide_eq_false_iff_not] at h3
  have hX : 0 < X.length := by omega
  have hn := hx.both hX hY (h2.2.resolve_left (by omega)) h3.2
  rw [← it_dec] at hn
  refine Trip.sD tblOk mixed (by repeat' (first | exact rfl | (apply Rule.under tblOk; intro hγ; with_reducible apply Rule.indexAddr) | exact idx_map _ _ _ (by have h2 := hγ; simp only [gpick, cond_true, cond_false, decide_eq_true_eq, Bool.and_eq_true, Bool.or_eq_true, Bool.not_eq_true', Bool.not_eq_false', Bool.or_eq_false_iff, decide_eq_false_iff_not, List.length_map] at h2; show _ < _; omega) | ((with_reducible refine Side.mk ?_); first | exact fun h => h | exact fun _ h => congrArg Bool.not h | (simp only [ln]; first | done | omega) | exact fun _ => hγ) | constructor)) ?_
  refine Trip.D tblOk mixed (by repeat' (first | exact rfl | (apply Rule.under tblOk; intro hγ; with_reducible apply Rule.indexAddr) | exact idx_map _ _ _ (by have h2 := hγ; simp only [gpick, cond_true, cond_false, decide_eq_true_eq, Bool.and_eq_true, Bool.or_eq_true, Bool.not_eq_true', Bool.not_eq_false', Bool.or_eq_false_iff, decide_eq_false_iff_not, List.length_map] at h2; show _ < _; omega) | ((first | with_reducible refine bokL ?_ | with_reducible refine Side.mk ?_); (simp only [ln]; first | done | omega)) | constructor)) ?_
  exact ⟨(X.drop 1, Y.drop 1, F ++ [X[0]!], c || !(decide (X[0]!.id = Y[0]!.id) && (decide (X[0]!.kind = Y[0]!.kind) && (decide (X[0]!.body = Y[0]!.body) && true)))), by exact hn, by first | omega | (dsimp only at *; omega), Weak.kp (ht := by repeat' (first | exact rfl | exact congrArg (PV.sl na 3) (oneDrop X) | exact congrArg (PV.sl nb 3) (oneDrop Y) | (refine Side.mk (oslE ?_ ?_) <;> (simp only [ln]; first | done | omega)) | constructor)) (ho := by repeat' (first | exact rfl | exact arrF (by simp) (by simp) | constructor)) (huo := by repeat' (first | exact rfl | exact plainL_map _ (fun _ => rfl) _ | constructor))⟩
 intro h
 have h : ¬ (0 < X.length ∨ 0 < Y.length) := by
  have h : (decide (0 < ((X.map It.pv).length : Int)) || decide (0 < ((Y.map It.pv).length : Int))) = false := h
  rw [List.length_map, List.length_map] at h
  simp only [Bool.or_eq_false_iff, decide_eq_false_iff_not] at h
  omega
 have hX0 : X = [] := List.length_eq_zero_iff.1 (by omega)
 have hY0 : Y = [] := List.length_eq_zero_iff.1 (by omega)
 subst hX0
 subst hY0
 obtain ⟨hu, hc⟩ := hx.done
 rw [hu, hc] at hE
 rw [hu] at hL
 refine Trip.exit (Trip.seq (Trip.block (Trip.sr tblOk ?_)))
 apply Trip.cond (.tmp rfl)
 ·intro h2
  have h2 : c = true := h2
  rw [if_pos h2] at hE
  rw [if_pos (by omega)] at hL
  subst hL
  subst hE
  refine Trip.sr tblOk ?_
  refine Trip.ret (rt2 [])
 intro h2
 have h2 : c = false := h2
 rw [if_neg (by rw [h2]; simp)] at hE
 refine Trip.sR tblOk (by repeat' (first | exact rfl | ((with_reducible refine Side.mk ?_); (simp only [ln]; first | done | omega)) | constructor)) ?_
 apply Trip.cond (.tmp rfl)
 ·intro h3
  have h3 : (65536 : Int) < F.length := by simpa using h3
  rw [if_pos h3] at hE
  rw [if_pos (by omega)] at hL
  subst hL
  subst hE
  refine Trip.sr tblOk ?_
  refine Trip.ret (rt2 [])
 intro h3
 have h3 : ¬ (65536 : Int) < F.length := by simpa using h3
 rw [if_neg h3] at hE
 rw [if_neg (by simp [hE])] at hL
 subst hL
 subst hE
 refine Trip.skip (Trip.sr tblOk ?_)
 refine Trip.ret (rt2 [900] (hc := by repeat' (first | exact rfl | exact plainL_map _ (fun _ => rfl) _ | (refine Side.mk ?_; simp only [ln]; first | done | omega) | constructor)))
set_option maxHeartbeats 1000000 in
theorem cUnion17 (na nb : Bool) (a b : List It) (ha : a.length ≤ 1000000000) (hb : b.length ≤ 1000000000) : Ctr prog 34 [stPV na a, stPV nb b] [] (.tup [stPV (unionL a b).isEmpty (unionL a b), iV (unionE a b)]) [] [] := by
 have hE : unionE a b = if uniC a b = true then 170 else if (65536 : Int) < (uni a b).length then 4 else 0 := rfl
 have hL : unionL a b = if unionE a b ≠ 0 then [] else uni a b := rfl
 generalize unionL a b = L at *
 generalize unionE a b = E at *
 refine Ctr.enter tblOk func34 rfl (by decide) rfl (nt := 120) rfl rfl rfl rfl ?_
 refine Trip.sr tblOk ?_
 refine Trip.sr tblOk ?_
 refine Trip.sr tblOk ?_
 refine Trip.seq (Trip.block ?_)
 apply Trip.loop (fun (x : Nat × Nat × List It) => ⟨[(2, .ref 2 0), (3, .ref 3 0), (4, .ref 4 0), (6, .osl 900 0 x.2.2.length x.2.2.length), (7, iV x.1), (8, iV x.2.1)], [(900, .arr 3 x.2.2.isEmpty (x.2.2.map It.pv)), (2, .box [.sl na 3 (a.map It.pv)]), (3, .box [.sl nb 3 (b.map It.pv)]), (4, .box [nilS])]⟩) (fun (x : Nat × Nat × List It) => x.1 ≤ a.length ∧ x.2.1 ≤ b.length ∧ Uni a b (a.drop x.1) (b.drop x.2.1) x.2.2 false) (fun (x : Nat × Nat × List It) => (a.length - x.1) + (b.length - x.2.1)) ((0, 0, []))
 ·exact ⟨Nat.zero_le _, Nat.zero_le _, Uni.zero a b⟩
 ·refine Weak.trans (S2 := ⟨[(2, .ref 2 0), (3, .ref 3 0), (4, .ref 4 0), (6, nilS), (7, iV 0), (8, iV 0)], [(2, .box [.sl na 3 (a.map It.pv)]), (3, .box [.sl nb 3 (b.map It.pv)]), (4, .box [nilS])]⟩) ?_ ?_
  ·exact Weak.kp
  ·exact Weak.adopt 900 3 rfl rfl (by repeat' (first | exact rfl | constructor)) (by repeat' (first | exact rfl | constructor))
 intro x hx
 obtain ⟨i, k, F⟩ := x
 dsimp only at *
 obtain ⟨hi, hk, hx⟩ := hx
 have hlen := hx.2.2
 simp only [List.length_drop] at hlen
 have lX : (a.drop i).length = a.length - i := List.length_drop
 have lY : (b.drop k).length = b.length - k := List.length_drop
 have bX := drop_bang (l := a) (i := i)
 have bY := drop_bang (l := b) (i := k)
 refine Trip.seq (Trip.sR tblOk (by repeat' (first | exact rfl | ((with_reducible refine Side.mk ?_); first | exact fun h => h | exact fun _ h => congrArg Bool.not h) | constructor)) ?_)
 apply Trip.cond (.tmp rfl)
 ·intro h
  have h : i < a.length ∨ k < b.length := by
   have h : (decide ((i : Int) < ((a.map It.pv).length : Int)) || decide ((k : Int) < ((b.map It.pv).length : Int))) = true := h
   rw [List.length_map, List.length_map] at h
   simp only [Bool.or_eq_true, decide_eq_true_eq] at h
   omega
  refine Trip.skip (Trip.block (Trip.block (Trip.sD tblOk mixed (by repeat' (first | exact rfl | (apply Rule.under tblOk; intro hγ; with_reducible apply Rule.indexAddr) | exact idx_map _ _ _ (by have h2 := hγ; simp only [gpick, cond_true, cond_false, decide_eq_true_eq, Bool.and_eq_true, Bool.or_eq_true, Bool.not_eq_true', Bool.not_eq_false', Bool.or_eq_false_iff, decide_eq_false_iff_not, List.length_map] at h2; show _ < _; omega) | ((with_reducible refine Side.mk ?_); first | exact fun h => h | exact fun _ h => congrArg Bool.not h | (intro h1 h2; rw [h1, h2]; rfl) | exact fun _ => hγ | (have h2 := hγ; simp only [gpick, cond_true, cond_false, decide_eq_true_eq, Bool.and_eq_true, Bool.or_eq_true, Bool.not_eq_true', Bool.not_eq_false', Bool.or_eq_false_iff, decide_eq_false_iff_not, List.length_map] at h2; (try simp only [List.length_map]); omega)) | constructor)) ?_)))
  apply Trip.cond (.tmp rfl)
  ·intro h2
   have h2 : (decide ((k : Int) = ((b.map It.pv).length : Int)) || (decide ((i : Int) < ((a.map It.pv).length : Int)) && Op.bytesLess a[i]!.id b[k]!.id)) = true := h2
   rw [List.length_map, List.length_map] at h2
   simp only [Bool.or_eq_true, Bool.and_eq_true, decide_eq_true_eq] at h2
   have hX : i < a.length := by omega
   have hn := hx.left (by omega) (by
    by_cases hY : k = b.length
    ·exact .inl (by omega)
    ·exact .inr ⟨by omega, by rw [bX hX, bY (by omega)]; exact (h2.resolve_left (by omega)).2⟩)
   rw [drop_one, bX hX] at hn
   refine Trip.sR tblOk (by repeat' (first | exact rfl | exact idx_map _ _ _ (by show _ < _; first | omega | (simp only [List.length_map] at *; omega)) | ((with_reducible refine Side.mk ?_); (simp only [ln]; first | done | omega)) | constructor)) ?_
   refine Trip.R tblOk (by repeat' (first | exact rfl | ((with_reducible refine Side.mk ?_); omega) | constructor)) ?_
   exact ⟨(i + 1, k, F ++ [a[i]!]), by exact ⟨hX, hk, hn⟩, by first | omega | (dsimp only at *; omega), Weak.kp (ht := by repeat' (first | exact rfl | (refine Side.mk (oslE ?_ ?_) <;> (simp only [ln]; first | done | omega)) | constructor)) (ho := by repeat' (first | exact rfl | exact arrF (by simp) (by simp) | constructor)) (huo := by repeat' (first | exact rfl | exact plainL_map _ (fun _ => rfl) _ | constructor))⟩
  intro h2
  have h2 : (decide ((k : Int) = ((b.map It.pv).length : Int)) || (decide ((i : Int) < ((a.map It.pv).length : Int)) && Op.bytesLess a[i]!.id b[k]!.id)) = false := h2
  rw [List.length_map, List.length_map] at h2
  simp only [Bool.or_eq_false_iff, Bool.and_eq_false_iff, decide_eq_false_iff_not] at h2
  have hY : k < b.length := by omega
  refine Trip.sD tblOk mixed (by repeat' (first | exact rfl | (apply Rule.under tblOk; intro hγ; with_reducible apply Rule.indexAddr) | exact idx_map _ _ _ (by have h2 := hγ; simp only [gpick, cond_true, cond_false, decide_eq_true_eq, Bool.and_eq_true, Bool.or_eq_true, Bool.not_eq_true', Bool.not_eq_false', Bool.or_eq_false_iff, decide_eq_false_iff_not, List.length_map] at h2; show _ < _; omega) | ((with_reducible refine Side.mk ?_); first | exact fun h => h | exact fun _ h => congrArg Bool.not h | (simp only [ln]; first | done | omega) | exact fun _ => hγ | (have h2 := hγ; simp only [gpick, cond_true, cond_false, decide_eq_true_eq, Bool.and_eq_true, Bool.or_eq_true, Bool.not_eq_true', Bool.not_eq_false', Bool.or_eq_false_iff, decide_eq_false_iff_not, List.length_map] at h2; (try simp only [List.length_map]); omega)) | constructor)) ?_
  apply Trip.cond (.tmp rfl)
  ·intro h3
   have h3 : (decide ((i : Int) = ((a.map It.pv).length : Int)) || Op.bytesLess b[k]!.id a[i]!.id) = true := h3
   rw [List.length_map] at h3
   simp only [Bool.or_eq_true, decide_eq_true_eq] at h3
   have hn := hx.right (by omega) (by
    by_cases hX : i = a.length
    ·exact .inl (by omega)
    ·exact .inr ⟨by omega, by rw [bX (by omega), bY hY]; exact h2.2.resolve_left (by omega), by rw [bX (by omega), bY hY]; exact h3.resolve_left (by omega)⟩)
   rw [drop_one, bY hY] at hn
   refine Trip.sR tblOk (by repeat' (first | exact rfl | exact idx_map _ _ _ (by show _ < _; first | omega | (simp only [List.length_map] at *; omega)) | ((with_reducible refine Side.mk ?_); (simp only [ln]; first | done | omega)) | constructor)) ?_
   refine Trip.R tblOk (by repeat' (first | exact rfl | ((with_reducible refine Side.mk ?_); omega) | constructor)) ?_
   exact ⟨(i, k + 1, F ++ [b[k]!]), by exact ⟨hi, hY, hn⟩, by first | omega | (dsimp only at *; omega), Weak.kp (ht := by repeat' (first | exact rfl | (refine Side.mk (oslE ?_ ?_) <;> (simp only [ln]; first | done | omega)) | constructor)) (ho := by repeat' (first | exact rfl | exact arrF (by simp) (by simp) | constructor)) (huo := by repeat' (first | exact rfl | exact plainL_map _ (fun _ => rfl) _ | constructor))⟩
  intro h3
  have h3 : (decide ((i : Int) = ((a.map It.pv).length : Int)) || Op.bytesLess b[k]!.id a[i]!.id) = false := h3
  rw [List.length_map] at h3
  simp only [Bool.or_eq_false_iff, decide_eq_false_iff_not] at h3
  have hX : i < a.length := by omega
  have g1 : Op.bytesLess (a.drop i)[0]!.id (b.drop k)[0]!.id = false := by rw [bX hX, bY hY]; exact h2.2.resolve_left (by omega)
  have g2 : Op.bytesLess (b.drop k)[0]!.id (a.drop i)[0]!.id = false := by rw [bX hX, bY hY]; exact h3.2
  have hcl := hx.clash (by omega) (by omega) g1 g2
  have hn := hx.both (by omega) (by omega) g1 g2
  rw [bX hX, bY hY] at hcl
  rw [drop_one, drop_one, bX hX, bY hY] at hn
  refine Trip.seq (Trip.sD tblOk mixed (by repeat' (first | exact rfl | exact idx_map _ _ _ (by show _ < _; first | omega | (simp only [List.length_map] at *; omega)) | ((with_reducible refine Side.mk ?_); (simp only [ln]; first | done | omega)) | constructor)) ?_)
  apply Trip.cond (.tmp rfl)
  ·intro h4
   have h4 : a[i]! ≠ b[k]! := by rw [it_dec] at h4; simpa using h4
   rw [if_pos (hcl h4)] at hE
   rw [if_pos (by omega)] at hL
   subst hL
   subst hE
   refine Trip.sr tblOk ?_
   refine Trip.ret (rt2 [])
  intro h4
  have h4 : a[i]! = b[k]! := by rw [it_dec] at h4; simpa using h4
  rw [decide_eq_true h4] at hn
  refine Trip.skip (Trip.sR tblOk (by repeat' (first | exact rfl | exact idx_map _ _ _ (by show _ < _; first | omega | (simp only [List.length_map] at *; omega)) | ((with_reducible refine Side.mk ?_); (simp only [ln]; first | done | omega)) | constructor)) ?_)
  refine Trip.sR tblOk (by repeat' (first | exact rfl | ((with_reducible refine Side.mk ?_); omega) | constructor)) ?_
  refine Trip.R tblOk (by repeat' (first | exact rfl | ((with_reducible refine Side.mk ?_); omega) | constructor)) ?_
  exact ⟨(i + 1, k + 1, F ++ [a[i]!]), by exact ⟨hX, hY, hn⟩, by first | omega | (dsimp only at *; omega), Weak.kp (ht := by repeat' (first | exact rfl | (refine Side.mk (oslE ?_ ?_) <;> (simp only [ln]; first | done | omega)) | constructor)) (ho := by repeat' (first | exact rfl | exact arrF (by simp) (by simp) | constructor)) (huo := by repeat' (first | exact rfl | exact plainL_map _ (fun _ => rfl) _ | constructor))⟩
 intro h
 have h : ¬ (i < a.length ∨ k < b.length) := by
  have h : (decide ((i : Int) < ((a.map It.pv).length : Int)) || decide ((k : Int) < ((b.map It.pv).length : Int))) = false := h
  rw [List.length_map, List.length_map] at h
  simp only [Bool.or_eq_false_iff, decide_eq_false_iff_not] at h
  omega
 rw [List.drop_of_length_le (by omega), List.drop_of_length_le (by omega)] at hx
 obtain ⟨hu, hc⟩ := hx.done
 rw [hu, hc] at hE
 rw [hu] at hL
 refine Trip.exit (Trip.seq (Trip.sR tblOk (by repeat' (first | exact rfl | ((with_reducible refine Side.mk ?_); (simp only [ln]; first | done | omega)) | constructor)) ?_))
 apply Trip.cond (.tmp rfl)
 ·intro h3
  have h3 : (65536 : Int) < F.length := by simpa using h3
  rw [if_neg (by simp), if_pos h3] at hE
  rw [if_pos (by omega)] at hL
  subst hL
  subst hE
  refine Trip.sr tblOk ?_
  refine Trip.ret (rt2 [])
 intro h3
 have h3 : ¬ (65536 : Int) < F.length := by simpa using h3
 rw [if_neg (by simp), if_neg h3] at hE
 rw [if_neg (by simp [hE])] at hL
 subst hL
 subst hE
 refine Trip.skip (Trip.sr tblOk ?_)
 refine Trip.ret (rt2 [900] (hc := by repeat' (first | exact rfl | exact plainL_map _ (fun _ => rfl) _ | (refine Side.mk ?_; simp only [ln]; first | done | omega) | constructor)))
end Go.Proofs.Tryz
