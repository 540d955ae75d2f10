/- slices.Delete at []DiskFile. -/
import Derived.Test.YtbdpnkcpglpfbaaTd
namespace Go.Proofs.Try
open Go Go.Sym

theorem del1 (es : List PV) (i j : Nat) (hij : i < j) (hj : j ≤ es.length) : putAt es ((i : Int).toNat - 0) ((es.drop (0 + (j : Int).toNat)).take (es.length - (j : Int).toNat)) = putAt es i (es.drop j) := by
  have h3 : (es.drop (0 + (j : Int).toNat)).take (es.length - (j : Int).toNat) = es.drop j := by
    have : 0 + (j : Int).toNat = j := by omega
    rw [this]
    exact List.take_of_length_le (by rw [List.length_drop]; omega)
  rw [h3]; congr 1
theorem del2 (es : List PV) (d : PV) (i j : Nat) (hij : i < j) (hj : j ≤ es.length) : putAt (putAt es i (es.drop j)) (i + (es.length - j)) (List.replicate (j - i) d) = es.take i ++ (es.drop j ++ List.replicate (j - i) d) := by
  have h2 : (es.take i).length = i := by rw [List.length_take]; omega
  have h5 : (es.drop j).length = es.length - j := List.length_drop
  have := putAt_app (es.take i ++ es.drop j) (es.drop (i + (es.drop j).length)) [] (List.replicate (j - i) d) (i + (es.length - j)) (by rw [List.length_append]; omega) (by rw [List.length_replicate, List.length_drop]; omega)
  simp only [List.append_nil, List.append_assoc] at this
  exact this
theorem plain_app {a b : List PV} (h : plainL a = true) (k : plainL b = true) : plainL (a ++ b) = true := plainL_append h k
theorem plain_take {a : List PV} (n : Nat) (h : plainL a = true) : plainL (a.take n) = true := plainL_of fun p hp => plainL_mem h p (List.mem_of_mem_take hp)
theorem plain_drop {a : List PV} (n : Nat) (h : plainL a = true) : plainL (a.drop n) = true := plainL_of fun p hp => plainL_mem h p (List.mem_of_mem_drop hp)
theorem plain_dead (n k : Nat) : plainL (List.replicate n (deadE k)) = true := plainL_of fun p hp => by
  rw [List.eq_of_mem_replicate hp]
  show plainL (List.replicate k PV.dead) = true
  exact plainL_of fun q hq => by rw [List.eq_of_mem_replicate hq]; rfl

set_option maxHeartbeats 400000 in
set_option maxRecDepth 4000 in
theorem delete (nl : Bool) (es : List PV) (i j : Nat) (hij : i < j) (hj : j ≤ es.length) (hp : plainL es = true) (hc : cellsOkL (cellsOf es) = true) (hb : es.length ≤ 1000000000000) :
    Ctr prog 42 [.osl PN 0 es.length es.length, iV i, iV j] [.arr 3 nl es] (.osl PN 0 (i + (es.length - j)) es.length) [.arr 3 nl (es.take i ++ (es.drop j ++ List.replicate (j - i) (deadE 3)))] [] := by
  have hp1 : plainL (putAt es i (es.drop j)) = true := plain_app (plain_take _ hp) (plain_app (plain_drop _ hp) (plain_drop _ hp))
  have hp2 : plainL (es.take i ++ (es.drop j ++ List.replicate (j - i) (deadE 3))) = true := plain_app (plain_take _ hp) (plain_app (plain_drop _ hp) (plain_dead _ _))
  have hlen : (putAt es i (es.drop j)).length = es.length := putAt_length (by rw [List.length_drop]; omega)
  have q1 : ∀ nl, SObj.arr 3 nl _ = SObj.arr 3 nl _ := fun nl => congrArg (SObj.arr 3 nl) (del1 es i j hij hj)
  have q3 : PV.osl PN 0 (((i : Int).toNat - 0) + ((es.drop (0 + (j : Int).toNat)).take (es.length - (j : Int).toNat)).length) es.length = .osl PN 0 (i + (es.length - j)) es.length := by
    congr 1
    rw [List.length_take, List.length_drop]; omega
  refine Ctr.enter tblOk func42 rfl (by decide) rfl (nt := 33) rfl rfl rfl rfl ?_
  refine Trip.seq ?_
  apply Trip.reg tblOk
  · repeat' (first | exact rfl | ((first | with_reducible refine bok ?_ | with_reducible refine bokL ?_ | with_reducible refine bokR ?_ | with_reducible refine Side.mk ?_); first | omega | exact .inl rfl | exact .inr ⟨rfl, rfl, rfl⟩ | exact fun h => h | exact fun _ h => h | exact fun _ h => congrArg Bool.not h | (intro _ h; simp [gpick, h]; done) | (dsimp only; omega)) | ((fail_if_success (with_reducible refine Side.mk ?_)); constructor))
  · exact rfl
  apply Trip.regk ⟨[(0, .osl PN 0 es.length es.length), (1, iV i), (2, iV j)], [(PN, .arr 3 nl es)]⟩ tblOk
  · repeat' (first | exact rfl | (apply Rule.sem; intro hγ; with_reducible apply F_slice3 tblOk hγ) | ((first | with_reducible refine bok ?_ | with_reducible refine bokL ?_ | with_reducible refine bokR ?_ | with_reducible refine Side.mk ?_); first | omega | exact .inl rfl | exact .inr ⟨rfl, rfl, rfl⟩ | exact fun h => h | exact fun _ h => h | exact fun _ h => congrArg Bool.not h | (intro _ h; simp [gpick, h]; done) | (dsimp only; omega)) | ((fail_if_success (with_reducible refine Side.mk ?_)); constructor))
  · exact rfl
  · apply Weak.keep
    · exact rfl
    · repeat' (first | exact rfl | exact hp | constructor)
    · repeat' (first | exact rfl | exact hp | constructor)
    · exact rfl
    · repeat' (first | exact rfl | exact hp | constructor)
  refine Trip.seq ?_
  refine Trip.seq ?_
  apply Trip.reg tblOk
  · repeat' (first | exact rfl | ((first | with_reducible refine bok ?_ | with_reducible refine bokL ?_ | with_reducible refine bokR ?_ | with_reducible refine Side.mk ?_); first | omega | exact .inl rfl | exact .inr ⟨rfl, rfl, rfl⟩ | exact fun h => h | exact fun _ h => h | exact fun _ h => congrArg Bool.not h | (intro _ h; simp [gpick, h]; done) | (dsimp only; omega)) | ((fail_if_success (with_reducible refine Side.mk ?_)); constructor))
  · exact rfl
  apply Trip.cond (.tmp rfl)
  · intro h
    exfalso
    simp at h
    omega
  intro _
  refine Trip.skip ?_
  apply Trip.regk ⟨[(0, .osl PN 0 es.length es.length), (1, iV i), (2, iV j), (7, iV es.length)], [(PN, .arr 3 nl es)]⟩ tblOk
  · repeat' (first | exact rfl | ((first | with_reducible refine bok ?_ | with_reducible refine bokL ?_ | with_reducible refine bokR ?_ | with_reducible refine Side.mk ?_); first | omega | exact .inl rfl | exact .inr ⟨rfl, rfl, rfl⟩ | exact fun h => h | exact fun _ h => h | exact fun _ h => congrArg Bool.not h | (intro _ h; simp [gpick, h]; done) | (dsimp only; omega)) | ((fail_if_success (with_reducible refine Side.mk ?_)); constructor))
  · exact rfl
  · apply Weak.keep
    · exact rfl
    · repeat' (first | exact rfl | exact hp | constructor)
    · repeat' (first | exact rfl | exact hp | constructor)
    · exact rfl
    · repeat' (first | exact rfl | exact hp | constructor)
  apply Trip.drwk ⟨[(0, .osl PN 0 (i + (es.length - j)) es.length), (7, iV es.length)], [(PN, .arr 3 nl (putAt es i (es.drop j)))]⟩ tblOk mixed
  · repeat' (first | exact rfl | (apply Rule.sem; intro hγ; with_reducible apply F_appendIn tblOk hγ) | ((first | with_reducible refine bok ?_ | with_reducible refine bokL ?_ | with_reducible refine bokR ?_ | with_reducible refine Side.mk ?_); first | omega | exact .inl rfl | exact .inr ⟨rfl, rfl, rfl⟩ | exact fun h => h | exact fun _ h => h | exact fun _ h => congrArg Bool.not h | (intro _ h; simp [gpick, h]; done) | (dsimp only; omega) | exact okT (okD hc _) _ | (simp [hiOf, loOf]; omega)) | ((fail_if_success (with_reducible refine Side.mk ?_)); constructor))
  · exact rfl
  · kernel_rfl
  · apply Weak.keep
    · exact rfl
    · repeat' (first | exact rfl | exact q1 _ | exact q3 | exact hp1 | constructor)
    · repeat' (first | exact rfl | exact q1 _ | exact q3 | exact hp1 | constructor)
    · exact rfl
    · repeat' (first | exact rfl | exact q1 _ | exact q3 | exact hp1 | constructor)
  have z1 : putAt (putAt es i (es.drop j)) (loOf (some (((i + (es.length - j) : Nat) : Int)))) (List.replicate ((es.length : Int).toNat - loOf (some (((i + (es.length - j) : Nat) : Int)))) (deadE 3)) = es.take i ++ (es.drop j ++ List.replicate (j - i) (deadE 3)) := by
    have e1 : loOf (some (((i + (es.length - j) : Nat) : Int))) = i + (es.length - j) := by simp only [loOf]; omega
    have e2 : (es.length : Int).toNat - (i + (es.length - j)) = j - i := by omega
    rw [e1, e2]
    exact del2 es _ i j hij hj
  have q2 : ∀ nl, SObj.arr 3 nl _ = SObj.arr 3 nl _ := fun nl => congrArg (SObj.arr 3 nl) z1
  apply Trip.regk ⟨[(0, .osl PN 0 (i + (es.length - j)) es.length)], [(PN, .arr 3 nl (es.take i ++ (es.drop j ++ List.replicate (j - i) (deadE 3))))]⟩ tblOk
  · repeat' (first | exact rfl | (apply Rule.sem; intro hγ; with_reducible apply F_sliceX tblOk hγ) | (apply Rule.sem; intro hγ; with_reducible apply F_clear tblOk hγ) | ((first | with_reducible refine bok ?_ | with_reducible refine bokL ?_ | with_reducible refine bokR ?_ | with_reducible refine Side.mk ?_); first | omega | exact .inl rfl | exact .inr ⟨rfl, rfl, rfl⟩ | exact fun h => h | exact fun _ h => h | exact fun _ h => congrArg Bool.not h | (intro _ h; simp [gpick, h]; done) | (dsimp only; omega) | exact hlen.symm) | ((fail_if_success (with_reducible refine Side.mk ?_)); constructor))
  · exact rfl
  · apply Weak.keep
    · exact rfl
    · repeat' (first | exact rfl | exact q2 _ | exact hp2 | constructor)
    · repeat' (first | exact rfl | exact q2 _ | exact hp2 | constructor)
    · exact rfl
    · repeat' (first | exact rfl | exact q2 _ | exact hp2 | constructor)
  refine Trip.seq ?_
  apply Trip.reg tblOk
  · repeat' (first | exact rfl | ((first | with_reducible refine bok ?_ | with_reducible refine bokL ?_ | with_reducible refine bokR ?_ | with_reducible refine Side.mk ?_); first | omega | exact .inl rfl | exact .inr ⟨rfl, rfl, rfl⟩ | exact fun h => h | exact fun _ h => h | exact fun _ h => congrArg Bool.not h | (intro _ h; simp [gpick, h]; done) | (dsimp only; omega)) | ((fail_if_success (with_reducible refine Side.mk ?_)); constructor))
  · exact rfl
  refine Trip.ret ?_
  refine ⟨_, _, [], [], [.arr 3 nl (es.take i ++ (es.drop j ++ List.replicate (j - i) (deadE 3)))], [], .cons rfl .nil, .one, .cons rfl .nil, .nil, rfl, rfl, rfl, ?_, ?_, ?_⟩
  all_goals repeat' (first | exact rfl | exact hp2 | constructor)
end Go.Proofs.Try
