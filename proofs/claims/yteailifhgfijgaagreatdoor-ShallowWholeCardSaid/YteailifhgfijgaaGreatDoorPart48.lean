/- The law holds for every input: it returns true and leaves its arguments as they were; the card ties the listed variables to the text of the program. No further conditions. -/
import Derived.Test.YteailifhgfijgaaGreatDoorPart47
import Derived.Test.YteailifhgfijgaaGreatDoorTie
import Derived.Test.YteailifhgfijgaaGreatDoorCards
import Derived.OpenShut
import Derived.SevenTiedAt
import Derived.Test.YteailifhgfijgaaGreatDoorPart45
set_option linter.unusedVariables false
set_option linter.unusedSimpArgs false
namespace Go.Proofs.Tryz
open Go Go.Sym Go.Graft
set_option maxRecDepth 20000
theorem mod8 (n : Int) (h : 0 ≤ n ∧ n ≤ 255) : ∃ m : Nat, m ≤ 7 ∧ IntKind.i64.wrap (n.tmod 8) = m := by
 refine ⟨(n % 8).toNat, by omega, ?_⟩
 rw [Int.tmod_eq_emod_of_nonneg h.1, IntKind.wrap_i64]
 omega
theorem depAll_nat (l : List It) (cuts wants : List Str) (m : Nat) : depAll l cuts wants ((m : Int) + 1) = depR l cuts (m + 1) wants [] := by
 rw [depAll, if_neg (by omega), show ((m : Int) + 1).toNat = m + 1 by omega]
theorem depR_len {l : List It} {cuts wants : List Str} {m : Nat} {A C : List Str} (h : depR l cuts (m + 1) wants [] = (A, C, 0)) : A.length ≤ l.length ∧ C.length ≤ l.length := by
 have D := dep_facts l cuts m _ _ _ _ h (by simp)
 have hA := dep_asc l cuts (m + 1) wants [] List.Pairwise.nil
 rw [h] at hA
 have key : ∀ X : List Str, X.Nodup → (∀ x ∈ X, x ∈ A) → X.length ≤ l.length := fun X hn hX => by
  have := nodup_len (b := l.map (·.id)) hn fun x hx => by
   have hp := placed_lt (rdE_placed (D.clo x (hX x hx) (by simp)).1)
   exact List.mem_map.2 ⟨_, bang_mem hp.1, hp.2⟩
  rwa [List.length_map] at this
 exact ⟨key A (asc_nodup hA.1) fun x h => h, key C (asc_nodup hA.2) fun x h => (D.cut x h).1⟩
set_option maxHeartbeats 4000000 in
theorem cShallowWhole (v : Vw) (nw : Bool) (wants : List Str) (n : Int) (hn : 0 ≤ n ∧ n ≤ 255) : Ctr prog 6 [v.pv, .sl nw 1 (wants.map fun x => sV x), .v (.int .u8 n)] [] (bV true) [] [] := by
 have c := cLives47
 have c1 := cRight47 v
 have hg := fun h : rightV v = true => rightV_gives h
 generalize rightV v = r at *
 obtain ⟨m, hm7, hmw⟩ := mod8 n hn
 have cd := fun (h : r = true) (hw : wants.length ≤ 8) => cDepthS v nw wants ((m : Int) + 1) (by have := (hg h).1; omega) (by have := (hg h).2.1; omega) (hg h).2.2.1 (fun x hx => Nat.le_trans ((right_gives (hg h).2.2.2).1 x hx) (by decide)) (by omega) (by omega)
 have cd2 := fun (h : r = true) (hw : wants.length ≤ 8) => cDepthS v nw wants (((m + 1 : Nat) : Int) + 1) (by have := (hg h).1; omega) (by have := (hg h).2.1; omega) (hg h).2.2.1 (fun x hx => Nat.le_trans ((right_gives (hg h).2.2.2).1 x hx) (by decide)) (by omega) (by omega)
 rw [depAll_nat] at cd cd2
 have hbad := dep_bad v.l v.cuts (m + 1) wants []
 have herr := dep_err v.l v.cuts m wants []
 have hmono := dep_mono v.l v.cuts m wants []
 have hwalk := fun (A C cuts' : List Str) => depth_walk (l := v.l) (cuts := v.cuts) (cuts' := cuts') (wants := wants) (A := A) (C := C) (m := m)
 have hlen := fun (A C : List Str) => depR_len (l := v.l) (cuts := v.cuts) (wants := wants) (m := m) (A := A) (C := C)
 have hasc := dep_asc v.l v.cuts (m + 1) wants [] List.Pairwise.nil
 have hBl := fun (B C : List Str) => depR_len (l := v.l) (cuts := v.cuts) (wants := wants) (m := m + 1) (A := B) (C := C)
 generalize hD : depR v.l v.cuts (m + 1) wants [] = D at *
 generalize hD2 : depR v.l v.cuts (m + 2) wants [] = D2 at *
 obtain ⟨A, C, E⟩ := D
 obtain ⟨B, C2, F⟩ := D2
 have cAl := fun (h : r = true) (hw : wants.length ≤ 8) (cuts' : List Str) (hc : cuts'.length ≤ 1000) => cAllW ⟨v.nl, v.l, v.nr, v.rf, v.ng, v.lg, decide ((v.cuts ++ C).length = 0), cuts'⟩ nw wants (by have := (hg h).1; dsimp only; omega) (by dsimp only; omega) (fun x hx => Nat.le_trans ((hg h).2.2.1 x hx) (by decide)) (by omega)
 have cp := fun (h : r = true) (cuts' : List Str) (hc : cuts'.length ≤ 1000) (id : Str) => cParS ⟨v.nl, v.l, v.nr, v.rf, v.ng, v.lg, decide ((v.cuts ++ C).length = 0), cuts'⟩ id (by have := (hg h).1; dsimp only; omega) (by dsimp only; omega) (fun x hx => Nat.le_trans ((hg h).2.2.1 x hx) (by decide))
 obtain ⟨nl, l, nr, rf, ng, lg, nc, cuts⟩ := v
 dsimp only at *
 refine Ctr.enter tblOk func6 rfl (by decide) rfl (nt := 147) rfl rfl rfl rfl ?_
 refine Trip.sr tblOk ?_
 refine Trip.seq (Trip.sR tblOk (by repeat' (first | exact rfl | (apply Rule.sem; intro hγ; with_reducible apply F_call0 (x := .func 7) (B := []) hγ (hspec := c1)) | ((with_reducible refine Side.mk ?_); first | exact .inl rfl | exact fun h => h | exact fun _ h => congrArg Bool.not h) | constructor)) ?_)
 apply Trip.cond (.tmp rfl)
 ·intro h
  refine Trip.sR tblOk (by repeat' (first | exact rfl | (apply Rule.sem; intro hγ; with_reducible apply F_call0 (x := .func 8) (B := []) hγ (hspec := c)) | ((with_reducible refine Side.mk ?_); exact .inl rfl) | constructor)) ?_
  refine Trip.ret (rt1 [] (hc := by repeat' (exact cvB (by simp only [List.length_map]))))
 intro h
 have h : r = true ∧ wants.length ≤ 8 := by
  cases r with
  | false => simp at h
  | true => simp at h; exact ⟨rfl, by omega⟩
 obtain ⟨hr, hw⟩ := h
 have cd := cd hr hw
 have cd2 := cd2 hr hw
 have cAl := cAl hr hw
 have cp := cp hr
 have hg := hg hr
 refine Trip.skip ?_
 refine Trip.rk ⟨[(1, .sl nw 1 (wants.map fun x => sV x)), (3, .ref 3 0), (7, iV ((m : Int) + 1))], [(3, .box (Vw.cells ⟨nl, l, nr, rf, ng, lg, nc, cuts⟩))]⟩ tblOk (by repeat' (first | exact rfl | ((with_reducible refine Side.mk ?_); omega) | constructor)) (Weak.kp (ht := by repeat' (first | exact rfl | exact vI (by rw [hmw]) | constructor))) ?_
 refine Trip.rk ⟨[(1, .sl nw 1 (wants.map fun x => sV x)), (3, .ref 3 0), (7, iV ((m : Int) + 1)), (8, .sl A.isEmpty 1 (A.map fun x => sV x)), (9, .sl C.isEmpty 1 (C.map fun x => sV x)), (10, iV E)], [(3, .box (Vw.cells ⟨nl, l, nr, rf, ng, lg, nc, cuts⟩))]⟩ tblOk (by repeat' (first | exact rfl | (apply Rule.sem; intro hγ; with_reducible apply F_call0 (x := .func 9) (B := []) hγ (hspec := cd)) | ((with_reducible refine Side.mk ?_); exact .inl rfl) | constructor)) Weak.kp ?_
 refine Trip.rk ⟨[(1, .sl nw 1 (wants.map fun x => sV x)), (3, .ref 3 0), (8, .sl A.isEmpty 1 (A.map fun x => sV x)), (9, .sl C.isEmpty 1 (C.map fun x => sV x)), (10, iV E), (11, .sl B.isEmpty 1 (B.map fun x => sV x)), (13, iV F)], [(3, .box (Vw.cells ⟨nl, l, nr, rf, ng, lg, nc, cuts⟩))]⟩ tblOk (by repeat' (first | exact rfl | (apply Rule.sem; intro hγ; with_reducible apply F_call0 (x := .func 9) (B := []) hγ (hspec := cd2)) | ((with_reducible refine Side.mk ?_); first | omega | exact .inl rfl) | constructor)) Weak.kp ?_
 clear cd cd2
 refine Trip.seq (Trip.sr tblOk ?_)
 apply Trip.cond (.tmp rfl)
 ·intro h
  have h : E ≠ 0 := by simpa using h
  have hF : F ≠ 0 := herr h
  obtain ⟨k1, k2⟩ := hbad h
  have k1 : A = [] := k1
  have k2 : C = [] := k2
  subst k1 k2
  refine Trip.sR tblOk (by repeat' (first | exact rfl | (apply Rule.sem; intro hγ; with_reducible apply F_call0 (x := .func 8) (B := []) hγ (hspec := c)) | ((with_reducible refine Side.mk ?_); first | exact .inl rfl | exact fun h => h | exact fun _ h => h) | constructor)) ?_
  refine Trip.ret (rt1 [] (hc := by repeat' (exact cvB (by simp [hF]))))
 intro h
 have h : E = 0 := by simpa using h
 subst h
 have hasc1 := hasc.1
 obtain ⟨hAl, hCl⟩ := hlen A C rfl
 have hcl : (cuts ++ C).length ≤ 1000 := by rw [List.length_append]; have := hg.1; have := hg.2.1; omega
 have hsl := sortS_le (cuts ++ C)
 have hW := hwalk A C (sortS (cuts ++ C)) rfl (fun x => by rw [sortS_mem, List.mem_append])
 have cAl := cAl (sortS (cuts ++ C)) (by omega)
 have cp := fun id => cp (sortS (cuts ++ C)) (by omega) id
 have c16 := cSet06 false (cuts ++ C) (by omega)
 obtain ⟨hw0, hwA, hwC⟩ := hW
 rw [ancK, if_pos hw0, hw0, hwA] at cAl
 have hcut : ∀ x ∈ C, hasS cuts x = false ∧ rdE l x = 0 ∧ rdP l (sortS (cuts ++ C)) x = [] ∧ hasS A x = true := fun x hx => by
  obtain ⟨k1, k2, k3, k4⟩ := hwC x hx
  exact ⟨k2, k3, k4, (hasS_iff _ _).2 k1⟩
 have hBl : F = 0 → B.length ≤ l.length := fun h0 => by subst h0; exact (hBl B C2 rfl).1
 have hAB : F = 0 → ∀ x ∈ A, hasS B x = true := fun h0 x hx => (hasS_iff _ _).2 (hmono rfl h0 x hx)
 have hemp : (ancs l (sortS (cuts ++ C)) wants).1.isEmpty = A.isEmpty := by
  have := isEmpty_mem (a := (ancs l (sortS (cuts ++ C)) wants).1) (b := A) fun x => by rw [← hwA, sortS_mem]
  exact this
 rw [hemp] at cAl
 clear hw0 hwA hwC hemp hwalk hlen hbad herr hmono hasc
 generalize sortS (cuts ++ C) = cs at *
 generalize decide ((cuts ++ C).length = 0) = nc2 at *
 rw [List.map_append] at c16
 refine Trip.skip ?_
 refine Trip.rk ⟨[(1, .sl nw 1 (wants.map fun x => sV x)), (3, .ref 3 0), (8, .sl A.isEmpty 1 (A.map fun x => sV x)), (9, .sl C.isEmpty 1 (C.map fun x => sV x)), (11, .sl B.isEmpty 1 (B.map fun x => sV x)), (13, iV F), (14, .ref 14 0)], [(14, .box (Vw.cells ⟨nl, l, nr, rf, ng, lg, nc, cuts⟩)), (3, .box (Vw.cells ⟨nl, l, nr, rf, ng, lg, nc, cuts⟩))]⟩ tblOk (by repeat' (first | exact rfl | constructor)) Weak.kp ?_
 refine Trip.rk ⟨[(1, .sl nw 1 (wants.map fun x => sV x)), (3, .ref 3 0), (8, .sl A.isEmpty 1 (A.map fun x => sV x)), (9, .sl C.isEmpty 1 (C.map fun x => sV x)), (11, .sl B.isEmpty 1 (B.map fun x => sV x)), (13, iV F), (14, .ref 14 0)], [(14, .box (Vw.cells ⟨nl, l, nr, rf, ng, lg, nc2, cs⟩)), (3, .box (Vw.cells ⟨nl, l, nr, rf, ng, lg, nc, cuts⟩))]⟩ tblOk (by repeat' (first | exact rfl | (apply Rule.sem; intro hγ; with_reducible apply F_callG (x := .func 16) (σ := []) (G := [69]) (news := []) hγ (hspec := c16)) | (with_reducible apply cvView (B := [69])) | exact cellsOk_map _ (fun _ => rfl) _ | exact plainL_append (plainL_append rfl (plainL_map _ (fun _ => rfl) _)) (plainL_map _ (fun _ => rfl) _) | (show List.take _ (List.drop 0 _) = _; rw [List.drop_zero, List.take_length]; rfl) | ((with_reducible refine Side.mk ?_); (simp only [ln]; first | done | omega)) | constructor)) Weak.kp ?_
 have s1 := cSame06 A.isEmpty A.isEmpty A A (by omega) (by omega)
 rw [decide_eq_true rfl] at s1
 refine Trip.rk ⟨[(3, .ref 3 0), (8, .sl A.isEmpty 1 (A.map fun x => sV x)), (9, .sl C.isEmpty 1 (C.map fun x => sV x)), (11, .sl B.isEmpty 1 (B.map fun x => sV x)), (13, iV F), (14, .ref 14 0), (15, .sl A.isEmpty 1 (A.map fun x => sV x)), (16, iV 0)], [(14, .box (Vw.cells ⟨nl, l, nr, rf, ng, lg, nc2, cs⟩)), (3, .box (Vw.cells ⟨nl, l, nr, rf, ng, lg, nc, cuts⟩))]⟩ tblOk (by repeat' (first | exact rfl | (apply Rule.sem; intro hγ; with_reducible apply F_call0 (x := .func 20) (B := []) hγ (hspec := cAl)) | ((with_reducible refine Side.mk ?_); exact .inl rfl) | constructor)) Weak.kp ?_
 refine Trip.seq (Trip.sR tblOk (by repeat' (first | exact rfl | (apply Rule.sem; intro hγ; with_reducible apply F_call0 (x := .func 11) (B := []) hγ (hspec := s1)) | ((with_reducible refine Side.mk ?_); exact .inl rfl) | constructor)) ?_)
 apply Trip.cond (.tmp rfl)
 ·intro h
  simp at h
 intro h
 clear h
 refine Trip.skip (Trip.seq (Trip.sr tblOk ?_))
 refine Trip.block ?_
 refine Trip.loop (fun (i : Nat) => ⟨[(3, .ref 3 0), (8, .sl A.isEmpty 1 (A.map fun x => sV x)), (9, .sl C.isEmpty 1 (C.map fun x => sV x)), (11, .sl B.isEmpty 1 (B.map fun x => sV x)), (13, iV F), (14, .ref 14 0), (17, iV i)], [(14, .box (Vw.cells ⟨nl, l, nr, rf, ng, lg, nc2, cs⟩)), (3, .box (Vw.cells ⟨nl, l, nr, rf, ng, lg, nc, cuts⟩))]⟩) (fun (i : Nat) => i ≤ C.length) (fun (i : Nat) => C.length - i) (0) (by first | omega | (simp; done)) Weak.kp ?_
 intro i hi
 refine Trip.seq (Trip.sr tblOk ?_)
 apply Trip.cond (.tmp rfl)
 ·intro h
  have h : i < C.length := by simp at h; omega
  obtain ⟨k1, k2, k3, k4⟩ := hcut _ (bang_mem h)
  have cA := cHas06 A.isEmpty A C[i]! (by omega)
  have cC := cHas06 nc cuts C[i]! (by have := hg.2.1; omega)
  have cP := cp C[i]!
  rw [k1] at cC
  rw [k4] at cA
  rw [k2, k3] at cP
  refine Trip.skip (Trip.seq (Trip.block (Trip.seq (Trip.sD tblOk mixed (by repeat' (first | exact rfl | (apply Rule.sem; intro hγ; with_reducible apply F_call0 (dst := some 102) (x := .func 17) (B := []) hγ (hspec := cA)) | (apply Rule.sem; intro hγ; with_reducible apply F_call0 (dst := some 111) (x := .func 17) (B := []) hγ (hspec := cC)) | exact idx_map _ _ _ (by show _ < _; first | omega | (simp only [List.length_map] at *; omega)) | ((with_reducible refine Side.mk ?_); first | exact .inl rfl | (simp only [ln]; first | done | omega)) | constructor)) ?_))))
  apply Trip.cond (.tmp rfl)
  ·intro h2
   simp at h2
  intro h2
  clear h2
  refine Trip.skip (Trip.sD tblOk mixed (by repeat' (first | exact rfl | (apply Rule.sem; intro hγ; with_reducible apply F_call0 (x := .func 14) (B := []) hγ (hspec := cP)) | exact idx_map _ _ _ (by show _ < _; first | omega | (simp only [List.length_map] at *; omega)) | ((with_reducible refine Side.mk ?_); first | exact .inl rfl | (simp only [ln]; first | done | omega)) | constructor)) ?_)
  refine Trip.sr tblOk ?_
  apply Trip.cond (.tmp rfl)
  ·intro h2
   simp at h2
  intro h2
  clear h2
  refine Trip.skip (Trip.R tblOk (by repeat' (first | exact rfl | ((with_reducible refine Side.mk ?_); omega) | constructor)) ?_)
  exact ⟨i + 1, by first | omega | (dsimp only at *; omega), by first | omega | (dsimp only at *; omega), Weak.kp⟩
 intro h
 clear h
 refine Trip.exit (Trip.seq (Trip.sr tblOk ?_))
 refine Trip.block ?_
 refine Trip.loop (fun (i : Nat) => ⟨[(8, .sl A.isEmpty 1 (A.map fun x => sV x)), (11, .sl B.isEmpty 1 (B.map fun x => sV x)), (13, iV F), (20, iV i)], []⟩) (fun (i : Nat) => i ≤ A.length) (fun (i : Nat) => A.length - i) (0) (by first | omega | (simp; done)) Weak.kp ?_
 intro i hi
 refine Trip.seq (Trip.sR tblOk (by repeat' (first | exact rfl | ((with_reducible refine Side.mk ?_); first | exact fun h => h | exact fun _ h => h) | constructor)) ?_)
 apply Trip.cond (.tmp rfl)
 ·intro h
  have h : i < A.length ∧ F = 0 := by simp at h; exact ⟨by omega, h.2⟩
  have cB := cHas06 B.isEmpty B A[i]! (by have := hBl h.2; omega)
  rw [hAB h.2 _ (bang_mem h.1)] at cB
  have h := h.1
  refine Trip.skip (Trip.seq (Trip.block (Trip.sR tblOk (by repeat' (first | exact rfl | (apply Rule.sem; intro hγ; with_reducible apply F_call0 (x := .func 17) (B := []) hγ (hspec := cB)) | exact idx_map _ _ _ (by show _ < _; first | omega | (simp only [List.length_map] at *; omega)) | ((with_reducible refine Side.mk ?_); first | exact .inl rfl | (simp only [ln]; first | done | omega)) | constructor)) ?_)))
  apply Trip.cond (.tmp rfl)
  ·intro h2
   simp at h2
  intro h2
  clear h2
  refine Trip.skip (Trip.R tblOk (by repeat' (first | exact rfl | ((with_reducible refine Side.mk ?_); omega) | constructor)) ?_)
  exact ⟨i + 1, by first | omega | (dsimp only at *; omega), by first | omega | (dsimp only at *; omega), Weak.kp⟩
 intro h
 clear h
 refine Trip.exit (Trip.sR tblOk (by repeat' (first | exact rfl | (apply Rule.sem; intro hγ; with_reducible apply F_call0 (x := .func 8) (B := []) hγ (hspec := c)) | ((with_reducible refine Side.mk ?_); exact .inl rfl) | constructor)) ?_)
 refine Trip.ret (rt1 [] (hc := by repeat' (exact cvB (by simp only [List.length_map]))))
end Go.Proofs.Tryz
namespace Go.Proofs.YteailifhgfijgaaGreatDoor
open Go Go.Sym Go.Graft Go.Proofs.Tryz Go.ChangeShapes Go.WideShapes Go.ChangeAt Go.RowKit
set_option maxRecDepth 100000
theorem openU8A : OpensA Tryz.prog 5 (fun n : Int => .v (.int .u8 n)) (fun n => 0 ≤ n ∧ n ≤ 255) :=
 OpensA.one Tryz.underlying5 rfl (Opens.iso (Opens.int Tryz.underlying5) id fun _ h => ⟨⟨h.1, h.2⟩, rfl⟩)
theorem opensLaw : OpensL Tryz.prog [29, 27, 5] (fun (x : Vw × (Bool × List Str) × Int × Unit) => [x.1.pv, .sl x.2.1.1 1 (x.2.1.2.map fun x => sV x), .v (.int .u8 x.2.2.1)]) (fun x => True ∧ (x.2.1.1 = true → x.2.1.2 = []) ∧ (0 ≤ x.2.2.1 ∧ x.2.2.1 ≤ 255) ∧ True) := OpensL.cons openVwA (OpensL.cons openTxA (OpensL.cons openU8A OpensL.nil))
theorem ctrLaw : ∀ x, ((fun (x : Vw × (Bool × List Str) × Int × Unit) => True ∧ (x.2.1.1 = true → x.2.1.2 = []) ∧ (0 ≤ x.2.2.1 ∧ x.2.2.1 ≤ 255) ∧ True) x) → Ctr Tryz.prog 6 ((fun (x : Vw × (Bool × List Str) × Int × Unit) => [x.1.pv, .sl x.2.1.1 1 (x.2.1.2.map fun x => sV x), .v (.int .u8 x.2.2.1)]) x) [] (bV true) [] [] := fun x h => cShallowWhole x.1 x.2.1.1 x.2.1.2 x.2.2.1 h.2.2.1
theorem isLaw : IsLaw Rows.shallowWholeSpec 3 := ⟨rfl, fun H ds h => by
  match ds, h with
  | [d1, d2, d3], _ => rfl⟩
theorem liftedLaw (os : Os) (started : os.Started) (H : Type) (enc : TypeId × Value → H) :
  ReturnsInHanded {} Tryz.checked os 6 .any (fun w args => (Rows.shallowWholeSpec.pre enc Tryz.prog Tryz.f6 Rows.shallowWholeRow.domain false w args ∧ laidMetH Tryz.prog Rows.shallowWholeRow.laid w) ∧ sizedMet enc Tryz.prog Tryz.f6 (OpenSpec.ofChange Rows.shallowWholeSpec) false w args)
   (Rows.shallowWholeSpec.post enc Tryz.prog Tryz.f6 false true false false) := by
 refine lifted_of (C := Tryz.checked) (X := fun w _ => laidMetH Tryz.prog Rows.shallowWholeRow.laid w) (fun _ _ _ hh h => h.of_heap hh) own started (by kernel_rfl) Tryz.func6
  (ChangeSpec.witness_shaped (enc := enc) (C := Tryz.checked) (os := os) (X := fun w _ => laidMetH Tryz.prog Rows.shallowWholeRow.laid w) false (World.laidAll Tryz.prog os Rows.shallowWholeRow.laid) #[.agg #[.slice none 0 0, .slice none 0 0, .slice none 0 0, .slice none 0 0], .slice none 0 0, .int .u8 0] 8 (World.laidAll_os _ _ _)
   (World.shaped_of_ZipB (by kernel_rfl) (by kernel_rfl)) (by kernel_rfl) (by kernel_rfl) (by kernel_rfl)
   (by rw [MakeChecks.laidMetH_plain _ _ _ (by kernel_rfl)]; exact laidMet_laidAll _ (by kernel_rfl) (by kernel_rfl))) ?_
 intro W base args ds gs before hval hW hz hL hsh
 exact law_calls (P := Tryz.prog) (params := [29, 27, 5]) Tryz.params6 (by kernel_rfl) Tryz.underlying4 isLaw laidOut (by kernel_rfl) opensLaw ctrLaw W (globs_of hL hsh) base args ds gs before hval hW hz
theorem shallowWhole_row : Rows.ShallowWholeSaid :=
 OpenClaim.holds_of_wide 6 Tryz.f6 rfl rfl rfl rfl rfl rfl rfl ⟨rfl, rfl, rfl, rfl, rfl⟩ rfl rfl rfl rfl rfl (by kernel_rfl) Tryz.func6 (by kernel_rfl)
  (of_decide_eq_true (by kernel_rfl)) (by unfold Func.isWrapper; first | (rw [if_pos (by decide +kernel)]; kernel_rfl) | (rw [if_neg (by decide +kernel)]; exact ⟨rfl, rfl⟩))
  (fun os started H enc _ => liftedLaw os started H enc)
theorem shallowWhole_holds : Rows.ShallowWholeCardSaid :=
 Claim7.holds_tied_plain_at .later [] [.data, .data, .data, .data, .sentinel, .sentinel, .pinned] true (true, "07c7dc9d805979d1552564cccc6a4f18f5b42aa446f0e01130177840715cdcd5") true shallowWhole_row (fun _ h => by cases h) (by kernel_rfl) (fun _ h => by cases h) shallowWhole_row_tie rfl ⟨rfl, rfl⟩ (by kernel_rfl) rfl
  (fun f fn hf hfn => by
   obtain rfl : f = 6 := Option.some.inj ((show Tryz.prog.funcNamed "graftage/graftagelaw47.ShallowWhole" = some 6 by kernel_rfl).symm.trans hf) |>.symm
   obtain rfl : fn = Tryz.f6 := (Option.some.inj (Tryz.func6.symm.trans hfn)).symm
   exact ⟨by kernel_rfl, fun j t ht => by
    rw [Tryz.params6] at ht
    have hm : t ∈ [29, 27, 5] := by simpa using Array.mem_of_getElem? ht
    have hall : ([29, 27, 5].all fun u => !Tryz.prog.wantsStandIn u) = true := by kernel_rfl
    exact (show Tryz.prog.wantsStandIn t = false by simpa using List.all_eq_true.1 hall t hm)⟩)
  (by kernel_rfl)
end Go.Proofs.YteailifhgfijgaaGreatDoor
