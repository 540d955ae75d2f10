/- A part of the proof: Gs, Ge, Gf, Gg, Gh, Gi, Gj, Gk, Gl, Gm. -/
import Derived.Deep.Draws
import Derived.Test.YteailifhgfijgaaGreatDoorPart25
import Derived.Test.YteailifhgfijgaaGreatDoorPart24
set_option linter.unusedVariables false
set_option linter.unusedSimpArgs false
namespace Go.Proofs.Tryz
open Go Go.Sym Go.Graft
set_option maxRecDepth 20000
theorem grown_drewN (w : World) (n : Nat) : Grown w (w.drewN n) := ⟨rfl, rfl, rfl, Nat.le_refl _, fun _ _ => rfl⟩
theorem grown_grow (w : World) (os : Array Obj) : Grown w (Go.Sort.grow w os) :=
 ⟨rfl, rfl, rfl, by simp [Go.Sort.grow], fun b hb => by simp [Go.Sort.grow, Array.getElem?_append, hb]⟩
theorem grown_bytes (w : World) (e : TypeId) (t : ByteArray) : Grown w (Lib.bytesWorld w e t) := by
 obtain ⟨h1, h2, h3⟩ := bytesWorld_heap w e t
 exact ⟨h1, h2, h3, by rw [Lib.bytesWorld_size]; omega, fun b hb => Lib.bytesWorld_at_old w e t b hb⟩
theorem max_at {w : World} (h : Globals prog w) : ∃ m, w.cell? ⟨gMax, 0, none⟩ = some (.int .i64 m) := by
 obtain ⟨ob, h1, m, cs, e, f, rfl, h2⟩ := h (gMax, isInt) (.head _)
 simp only at h1
 exact ⟨m, by simp [World.cell?, h1, h2]⟩
theorem pow_at {w : World} (h : Globals prog w) : Lib.TabIs prog w "internal/strconv.uint64pow10" .u64 Lib.pow10Tab := by
 obtain ⟨ob, h1, e, f, rfl⟩ := h (gPow, rowIs (Lib.pow10Tab.map fun z => .int .u64 z)) (by repeat (first | exact .head _ | apply List.Mem.tail))
 simp only at h1
 have hg : prog.globalNamed "internal/strconv.uint64pow10" = some gPow := by kernel_rfl
 simp [Lib.TabIs, World.var?, hg, h1]
theorem sIndexByte (s : Str) (c : UInt8) : Ctr prog 205 [sV s, u8V c] [] (iV (Lib.indexByte s c)) [] [] :=
 Ctr.of_calls (xs := [.string ⟨⟨s⟩⟩, .int .u8 c.toNat]) ⟨_, func205, rfl, rfl⟩ rfl (fun _ _ _ => .v _ _) fun w _ => by
  refine (Tryz.strings_IndexByte ⟨⟨s⟩⟩ c.toNat w).mono ?_
  rintro e w' ⟨rfl, rfl⟩
  exact ⟨by simp, Grown.refl _⟩
theorem sHasPrefix (s p : Str) : Ctr prog 97 [sV s, sV p] [] (bV (Lib.hasPrefix s p)) [] [] :=
 Ctr.of_calls (xs := [.string ⟨⟨s⟩⟩, .string ⟨⟨p⟩⟩]) ⟨_, func97, rfl, rfl⟩ rfl (fun _ _ _ => .v _ _) fun w _ => by
  refine (Tryz.strings_HasPrefix ⟨⟨s⟩⟩ ⟨⟨p⟩⟩ w).mono ?_
  rintro e w' ⟨rfl, rfl⟩
  exact ⟨rfl, Grown.refl _⟩
theorem sCutPrefix (s p : Str) : Ctr prog 140 [sV s, sV p] [] (.tup [sV (Lib.trimPrefix s p), bV (Lib.hasPrefix s p)]) [] [] :=
 Ctr.of_calls (xs := [.string ⟨⟨s⟩⟩, .string ⟨⟨p⟩⟩]) ⟨_, func140, rfl, rfl⟩ rfl (fun _ _ _ => .tup (.cons (.v _ _) (.cons (.v _ _) (.nil _)))) fun w _ => by
  refine (Tryz.strings_CutPrefix ⟨⟨s⟩⟩ ⟨⟨p⟩⟩ w).mono ?_
  rintro e w' ⟨rfl, rfl⟩
  exact ⟨rfl, Grown.refl _⟩
theorem sCompare (s p : Str) : Ctr prog 90 [sV s, sV p] [] (iV (Lib.compareBytes s p)) [] [] :=
 Ctr.of_calls (xs := [.string ⟨⟨s⟩⟩, .string ⟨⟨p⟩⟩]) ⟨_, func90, rfl, rfl⟩ rfl (fun _ _ _ => .v _ _) fun w _ => by
  refine (Tryz.strings_Compare ⟨⟨s⟩⟩ ⟨⟨p⟩⟩ w).mono ?_
  rintro e w' ⟨rfl, rfl⟩
  exact ⟨rfl, Grown.refl _⟩
theorem sItoa (n : Int) (h0 : -9223372036854775808 ≤ n) (h1 : n ≤ 9223372036854775807) : Ctr prog 139 [iV n] [] (sV (Lib.itoa n)) [] [] :=
 Ctr.of_calls (xs := [.int .i64 n]) ⟨_, func139, rfl, rfl⟩ rfl (fun _ _ _ => .v _ _) fun w hg => by
  refine (Tryz.strconv_Itoa n h0 h1 w (pow_at hg)).mono ?_
  rintro e w' ⟨rfl, k, os, rfl⟩
  exact ⟨rfl, (grown_drewN w k).trans (grown_grow _ os)⟩
theorem sAtoi (s : Str) (n : Int) (hl : s.length ≤ 18) (h : Lib.atoi s = some n) : Ctr prog 196 [sV s] [] (.tup [iV n, .v .nilIface]) [] [] :=
 Ctr.of_calls (xs := [.string ⟨⟨s⟩⟩]) ⟨_, func196, rfl, rfl⟩ rfl (fun _ _ _ => .tup (.cons (.v _ _) (.cons (.v _ _) (.nil _)))) fun w _ => by
  refine (Tryz.strconv_Atoi ⟨⟨s⟩⟩ n hl h w).mono ?_
  rintro e w' ⟨rfl, t, rfl⟩
  exact ⟨rfl, grown_bytes _ _ _⟩
theorem sCut (s p : Str) (hs : s.length < 4294967281) : Ctr prog 93 [sV s, sV p] [] (.tup [sV (Lib.cut s p).1, sV (Lib.cut s p).2.1, bV (Lib.cut s p).2.2]) [] [] :=
 Ctr.of_calls (xs := [.string ⟨⟨s⟩⟩, .string ⟨⟨p⟩⟩]) ⟨_, func93, rfl, rfl⟩ rfl (fun _ _ _ => .tup (.cons (.v _ _) (.cons (.v _ _) (.cons (.v _ _) (.nil _))))) fun w hg => by
  obtain ⟨m, hm⟩ := max_at hg
  refine (Tryz.strings_Cut ⟨⟨s⟩⟩ ⟨⟨p⟩⟩ m w hs hm).mono ?_
  rintro e w' ⟨rfl, n, rfl⟩
  exact ⟨rfl, grown_drewN _ _⟩
theorem sContains (s p : Str) (hs : s.length < 4294967281) : Ctr prog 150 [sV s, sV p] [] (bV (Lib.contains s p)) [] [] :=
 Ctr.of_calls (xs := [.string ⟨⟨s⟩⟩, .string ⟨⟨p⟩⟩]) ⟨_, func150, rfl, rfl⟩ rfl (fun _ _ _ => .v _ _) fun w hg => by
  obtain ⟨m, hm⟩ := max_at hg
  refine (Tryz.strings_Contains ⟨⟨s⟩⟩ ⟨⟨p⟩⟩ m w hs hm).mono ?_
  rintro e w' ⟨rfl, rfl⟩
  exact ⟨rfl, Grown.refl _⟩
end Go.Proofs.Tryz
namespace Go.Proofs.Tryz
open Go Go.Sym Go.Graft
set_option maxRecDepth 20000
theorem cDigit2 (c : UInt8) : Ctr prog 156 [u8V c] [] (iV (hexv c)) [] [] := by
 obtain ⟨q1, q2, q3⟩ := hexv_cases c
 refine Ctr.enter tblOk func156 rfl (by decide) rfl (nt := 22) rfl rfl rfl rfl ?_
 refine Trip.sr tblOk ?_
 refine Trip.seq (Trip.sR tblOk (by repeat' (first | exact rfl | ((with_reducible refine Side.mk ?_); first | exact fun h => h | exact fun _ h => h) | constructor)) ?_)
 apply Trip.cond (.tmp rfl)
 ·intro h
  have h : 48 ≤ c.toNat ∧ c.toNat ≤ 57 := by simp at h; omega
  rw [q1 h.1 h.2]
  have hc := c.toNat_lt
  have e1 : IntKind.wrap .i64 (IntKind.wrap .u8 ((c.toNat : Int) - 48)) = (c.toNat : Int) - 48 := by
   have := wrap8s c 48 h.1 hc
   rw [show ((48 : Nat) : Int) = 48 from rfl] at this
   rw [this, wrap64n _ (by omega)]; omega
  refine Trip.sr tblOk ?_
  refine Trip.ret (rt1 [] (hc := by repeat' (exact cvI e1)))
 intro h
 refine Trip.skip ?_
 have h : ¬ (48 ≤ c.toNat ∧ c.toNat ≤ 57) := by simp at h; omega
 refine Trip.seq (Trip.sR tblOk (by repeat' (first | exact rfl | ((with_reducible refine Side.mk ?_); first | exact fun h => h | exact fun _ h => h) | constructor)) ?_)
 apply Trip.cond (.tmp rfl)
 ·intro h3
  have h3 : 97 ≤ c.toNat ∧ c.toNat ≤ 102 := by simp at h3; omega
  rw [q2 h3.1 h3.2]
  have hc := c.toNat_lt
  have e1 : IntKind.wrap .i64 (IntKind.wrap .u8 ((c.toNat : Int) - 97)) = (c.toNat : Int) - 97 := by
   have := wrap8s c 97 h3.1 hc
   rw [show ((97 : Nat) : Int) = 97 from rfl] at this
   rw [this, wrap64n _ (by omega)]; omega
  refine Trip.sR tblOk (by repeat' (first | exact rfl | ((with_reducible refine Side.mk ?_); omega) | constructor)) ?_
  refine Trip.ret (rt1 [] (hc := by repeat' (exact cvI (by rw [e1]; omega))))
 intro h3
 have h3 : ¬ (97 ≤ c.toNat ∧ c.toNat ≤ 102) := by simp at h3; omega
 refine Trip.skip ?_
 rw [q3 h h3]
 refine Trip.sr tblOk ?_
 refine Trip.ret (rt1 [])
end Go.Proofs.Tryz
namespace Go.Proofs.Tryz
open Go Go.Sym Go.Graft
set_option maxRecDepth 20000
theorem cDigits2 (s : Str) (hs : s.length ≤ 1000000000000) : Ctr prog 115 [sV s] [] (bV (allHex s)) [] [] := by
 refine Ctr.enter tblOk func115 rfl (by decide) rfl (nt := 15) rfl rfl rfl rfl ?_
 refine Trip.sr tblOk ?_
 refine Trip.seq (Trip.sr tblOk ?_)
 refine Trip.block ?_
 refine Trip.loop (fun (i : Nat) => ⟨[(0, sV s), (3, iV i)], []⟩) (fun (i : Nat) => i ≤ s.length ∧ ∀ j, j < i → 0 ≤ hexv (s.getD j 0)) (fun (i : Nat) => s.length - i) (0) (by exact ⟨Nat.zero_le _, fun j hj => absurd hj (by omega)⟩) Weak.kp ?_
 intro i hi
 obtain ⟨hi, hj⟩ := hi
 refine Trip.seq (Trip.sr tblOk ?_)
 apply Trip.cond (.tmp rfl)
 ·intro h
  have h : i < s.length := by simp at h; omega
  refine Trip.skip (Trip.seq (Trip.block (Trip.sR tblOk (by repeat' (first | exact rfl | (apply Rule.sem; intro hγ; with_reducible apply F_call0 (x := .func 156) (B := []) hγ (hspec := (cDigit2 _))) | ((with_reducible refine Side.mk ?_); first | omega | exact .inl rfl) | constructor)) ?_)))
  apply Trip.cond (.tmp rfl)
  ·intro h2
   have h2 : hexv (s.getD i 0) < 0 := by simpa using h2
   rw [allHex_false h h2]
   refine Trip.sr tblOk ?_
   refine Trip.ret (rt1 [] (hc := by repeat' (exact cvB (by simp only [List.length_map]))))
  intro h2
  have h2 : 0 ≤ hexv (s.getD i 0) := by simpa using h2
  refine Trip.skip (Trip.R tblOk (by repeat' (first | exact rfl | ((with_reducible refine Side.mk ?_); omega) | constructor)) ?_)
  exact ⟨i + 1, by exact ⟨by omega, fun j h3 => (Nat.lt_succ_iff_lt_or_eq.1 h3).elim (hj j) (fun e => e ▸ h2)⟩, by first | omega | (dsimp only at *; omega), Weak.kp⟩
 intro h
 have h : i = s.length := by simp at h; omega
 subst h
 refine Trip.exit ?_
 rw [allHex_true hj]
 refine Trip.sr tblOk ?_
 refine Trip.ret (rt1 [] (hc := by repeat' (exact cvB (by simp only [List.length_map]))))
theorem cIs2 (s : Str) (hs : s.length ≤ 1000000000000) : Ctr prog 70 [sV s] [] (bV (isId s)) [] [] := by
 have e : isId s = (decide ((s.length : Int) = 40) && allHex s) := by
  have : decide ((s.length : Int) = 40) = decide (s.length = 40) := by simp; omega
  rw [isId, this]
 rw [e]
 refine Ctr.enter tblOk func70 rfl (by decide) rfl (nt := 10) rfl rfl rfl rfl ?_
 refine Trip.sr tblOk ?_
 refine Trip.sR tblOk (by repeat' (first | exact rfl | (apply Rule.sem; intro hγ; with_reducible apply F_call0 (x := .func 115) (B := []) hγ (hspec := (cDigits2 s hs))) | ((with_reducible refine Side.mk ?_); first | exact .inl rfl | exact fun h => h | exact fun _ h => h) | constructor)) ?_
 refine Trip.ret (rt1 [] (hc := by repeat' (exact cvB (by simp only [List.length_map]))))
theorem cHex2 (s : Str) (hs : s.length ≤ 1000000000) : Ctr prog 111 [sV s] [] (sV (hexOf s)) [] [] := by
 refine Ctr.enter tblOk func111 rfl (by decide) rfl (nt := 30) rfl rfl rfl rfl ?_
 refine Trip.sr tblOk ?_
 refine Trip.sr tblOk ?_
 refine Trip.sr tblOk ?_
 refine Trip.seq (Trip.sr tblOk ?_)
 refine Trip.block ?_
 refine Trip.loop (fun (i : Nat) => ⟨[(0, sV s), (3, sV hexDigs), (4, .osl 6 0 (2 * i) (2 * i)), (5, iV i)], [(6, .arr 1 false ((hexOf (s.take i)).map u8V))]⟩) (fun (i : Nat) => i ≤ s.length) (fun (i : Nat) => s.length - i) (0) (by first | omega | (simp; done)) Weak.kp ?_
 intro i hi
 have hsn := hexOf_snoc s i
 have hl : (hexOf (s.take i)).length = 2 * i := by rw [hexOf_len, List.length_take]; omega
 generalize hB : hexOf (s.take (i + 1)) = B' at *
 refine Trip.seq (Trip.sr tblOk ?_)
 apply Trip.cond (.tmp rfl)
 ·intro h
  have h : i < s.length := by simp at h; omega
  have hsn := hsn h
  generalize hexOf (s.take i) = B at *
  have hb := (s.getD i 0).toNat_lt
  generalize hc : s.getD i 0 = c at *
  have e1 : IntKind.wrap .u8 (Int.tdiv ((s.getD ((i : Int).toNat) 0).toNat : Int) 16) = ((c.toNat / 16 : Nat) : Int) := by
   rw [Int.toNat_natCast, hc]
   have : Int.tdiv (c.toNat : Int) 16 = ((c.toNat / 16 : Nat) : Int) := by rw [Int.tdiv_eq_ediv_of_nonneg (by omega)]; simp
   rw [this]; simp [IntKind.wrap, IntKind.bits, IntKind.signed]; omega
  have e2 : Int.tmod ((s.getD ((i : Int).toNat) 0).toNat : Int) 16 = ((c.toNat % 16 : Nat) : Int) := by
   rw [Int.toNat_natCast, hc, Int.tmod_eq_emod_of_nonneg (by omega)]; simp
  refine Trip.skip ?_
  refine Trip.seqk ⟨[(0, sV s), (3, sV hexDigs), (4, .osl 6 0 (2 * (i + 1)) (2 * (i + 1))), (5, iV i)], [(6, .arr 1 false (B'.map u8V))]⟩ ?_ ?_
  ·refine Trip.block (Trip.D tblOk mixed (by repeat' (first | exact rfl | ((with_reducible refine Side.mk ?_); first | omega | (simp only [ln]; first | done | omega) | (rw [e1]; show 0 ≤ _ ∧ _ < ((16 : Nat) : Int); omega) | (rw [e2]; show 0 ≤ _ ∧ _ < ((16 : Nat) : Int); omega)) | constructor)) ?_)
   exact Weak.kp (ht := by repeat' (first | exact rfl | (refine Side.mk (oslE ?_ ?_) <;> (simp only [ln]; first | done | omega)) | constructor)) (ho := by repeat' (first | exact rfl | (refine arrE ?_; rw [e1, e2, hsn, List.map_append]; rfl) | constructor)) (huo := by repeat' (first | exact plainL_map _ (fun _ => rfl) _ | constructor))
  refine Trip.R tblOk (by repeat' (first | exact rfl | ((with_reducible refine Side.mk ?_); omega) | constructor)) ?_
  exact ⟨i + 1, by first | omega | (dsimp only at *; omega), by first | omega | (dsimp only at *; omega), Weak.kp (ho := by repeat' (first | exact rfl | (rw [hB]; rfl) | constructor)) (huo := by repeat' (first | exact plainL_map _ (fun _ => rfl) _ | constructor))⟩
 intro h
 have h : i = s.length := by simp at h; omega
 subst h
 have e8 : s.take s.length = s := List.take_of_length_le (by omega)
 rw [e8] at hl
 rw [e8]
 generalize hexOf s = B at *
 refine Trip.exit (Trip.sR tblOk (by repeat' (first | exact rfl | (apply Rule.sem; intro hγ; with_reducible apply F_bytesToString tblOk hγ) | ((with_reducible refine Side.mk ?_); (simp only [ln]; first | done | omega)) | constructor)) ?_)
 refine Trip.ret (rt1 [])
theorem cOf2 (s : Str) (hs : s.length ≤ 1000000000) : Ctr prog 76 [sV s] [] (sV (idOf s)) [] [] := by
 have hl := sha_len s
 have c1 := cDigest2 s hs
 have c2 := cHex2 ((sha s).take 20) (by rw [List.length_take]; omega)
 have e : idOf s = hexOf ((sha s).take 20) := rfl
 rw [e]
 generalize sha s = d at *
 refine Ctr.enter tblOk func76 rfl (by decide) rfl (nt := 7) rfl rfl rfl rfl ?_
 refine Trip.sr tblOk ?_
 refine Trip.sR tblOk (by repeat' (first | exact rfl | (apply Rule.sem; intro hγ; with_reducible apply F_call0 (x := .func 119) (B := []) hγ (hspec := c1)) | (apply Rule.sem; intro hγ; with_reducible apply F_call0 (x := .func 111) (B := []) hγ (hspec := c2)) | ((first | with_reducible refine bokR ?_ | with_reducible refine Side.mk ?_); first | omega | exact .inl rfl) | constructor)) ?_
 refine Trip.ret (rt1 [])
end Go.Proofs.Tryz
namespace Go.Proofs.Tryz
open Go Go.Sym Go.Graft
set_option maxRecDepth 20000
theorem cValue (c : UInt8) : Ctr prog 195 [u8V c] [] (iV (hexv c)) [] [] := by
 have c1 := sIndexByte hexDigs c
 rw [index_hex] at c1
 refine Ctr.enter tblOk func195 rfl (by decide) rfl (nt := 5) rfl rfl rfl rfl ?_
 refine Trip.sr tblOk ?_
 refine Trip.sR tblOk (by repeat' (first | exact rfl | (apply Rule.sem; intro hγ; with_reducible apply F_call0 (x := .func 205) (B := []) hγ (hspec := c1)) | ((with_reducible refine Side.mk ?_); exact .inl rfl) | constructor)) ?_
 refine Trip.ret (rt1 [])
theorem cAll (s : Str) (hs : s.length ≤ 1000000000000) : Ctr prog 178 [sV s] [] (bV (allHex s)) [] [] := by
 refine Ctr.enter tblOk func178 rfl (by decide) rfl (nt := 15) rfl rfl rfl rfl ?_
 refine Trip.sr tblOk ?_
 refine Trip.seq (Trip.sr tblOk ?_)
 refine Trip.block ?_
 refine Trip.loop (fun (i : Nat) => ⟨[(0, sV s), (5, iV s.length), (6, iV i)], []⟩) (fun (i : Nat) => i ≤ s.length ∧ ∀ j, j < i → 0 ≤ hexv (s.getD j 0)) (fun (i : Nat) => s.length - i) (0) (by exact ⟨Nat.zero_le _, fun j hj => absurd hj (by omega)⟩) Weak.kp ?_
 intro i hi
 obtain ⟨hi, hj⟩ := hi
 refine Trip.sr tblOk ?_
 refine Trip.seq ?_
 apply Trip.cond (.tmp rfl)
 ·intro h
  have h : i < s.length := by simp at h; omega
  refine Trip.skip (Trip.seq (Trip.block (Trip.sr tblOk ?_)))
  refine Trip.sR tblOk (by repeat' (first | exact rfl | (apply Rule.sem; intro hγ; with_reducible apply F_call0 (x := .func 195) (B := []) hγ (hspec := (cValue _))) | ((with_reducible refine Side.mk ?_); first | omega | exact .inl rfl) | constructor)) ?_
  apply Trip.cond (.tmp rfl)
  ·intro h2
   have h2 : hexv (s.getD i 0) < 0 := by simpa using h2
   rw [allHex_false h h2]
   refine Trip.sr tblOk ?_
   refine Trip.ret (rt1 [] (hc := by repeat' (exact cvB (by simp only [List.length_map]))))
  intro h2
  have h2 : 0 ≤ hexv (s.getD i 0) := by simpa using h2
  refine Trip.skip (Trip.R tblOk (by repeat' (first | exact rfl | ((with_reducible refine Side.mk ?_); omega) | constructor)) ?_)
  exact ⟨i + 1, by exact ⟨by omega, fun j h3 => (Nat.lt_succ_iff_lt_or_eq.1 h3).elim (hj j) (fun e => e ▸ h2)⟩, by first | omega | (dsimp only at *; omega), Weak.kp⟩
 intro h
 have h : i = s.length := by simp at h; omega
 subst h
 refine Trip.exit ?_
 rw [allHex_true hj]
 refine Trip.sr tblOk ?_
 refine Trip.ret (rt1 [] (hc := by repeat' (exact cvB (by simp only [List.length_map]))))
theorem cIs (s : Str) (hs : s.length ≤ 1000000000000) : Ctr prog 145 [sV s] [] (bV (isId s)) [] [] := by
 have e : isId s = (decide ((s.length : Int) = 40) && allHex s) := by
  have : decide ((s.length : Int) = 40) = decide (s.length = 40) := by simp; omega
  rw [isId, this]
 rw [e]
 refine Ctr.enter tblOk func145 rfl (by decide) rfl (nt := 10) rfl rfl rfl rfl ?_
 refine Trip.sr tblOk ?_
 refine Trip.sR tblOk (by repeat' (first | exact rfl | (apply Rule.sem; intro hγ; with_reducible apply F_call0 (x := .func 178) (B := []) hγ (hspec := (cAll s hs))) | ((with_reducible refine Side.mk ?_); first | exact .inl rfl | exact fun h => h | exact fun _ h => h) | constructor)) ?_
 refine Trip.ret (rt1 [] (hc := by repeat' (exact cvB (by simp only [List.length_map]))))
end Go.Proofs.Tryz
namespace Go.Proofs.Tryz
open Go Go.Sym Go.Graft
set_option maxRecDepth 20000
end Go.Proofs.Tryz
namespace Go.Proofs.Tryz
open Go Go.Sym Go.Graft
set_option maxRecDepth 20000
theorem shr15 (c : UInt8) : Int.fdiv (c.toNat : Int) (2 ^ min (4 : Int).toNat (IntKind.bits .u8)) = ((c.toNat / 16 : Nat) : Int) ∧ bitOp .and .u8 (c.toNat : Int) 15 = ((c.toNat % 16 : Nat) : Int) := by
 have key : ∀ n : Fin 256, Int.fdiv (n.val : Int) (2 ^ min (4 : Int).toNat (IntKind.bits .u8)) = ((n.val / 16 : Nat) : Int) ∧ bitOp .and .u8 (n.val : Int) 15 = ((n.val % 16 : Nat) : Int) := by decide +kernel
 exact key ⟨c.toNat, c.toNat_lt⟩
theorem cHex (s : Str) (hs : s.length ≤ 1000000000) : Ctr prog 94 [sV s] [] (sV (hexOf s)) [] [] := by
 refine Ctr.enter tblOk func94 rfl (by decide) rfl (nt := 30) rfl rfl rfl rfl ?_
 refine Trip.sr tblOk ?_
 refine Trip.sR tblOk (by repeat' (first | exact rfl | (apply Rule.sem; intro hγ; with_reducible apply F_makeSlice tblOk hγ) | ((with_reducible refine Side.mk ?_); first | omega | (dsimp only; omega)) | constructor)) ?_
 refine Trip.seq (Trip.sr tblOk ?_)
 refine Trip.block ?_
 refine Trip.loop (fun (i : Nat) => ⟨[(0, sV s), (3, .osl 8 0 (2 * i) (2 * i)), (10, iV s.length), (11, iV i)], [(8, .arr 1 false ((hexOf (s.take i)).map u8V))]⟩) (fun (i : Nat) => i ≤ s.length) (fun (i : Nat) => s.length - i) (0) (by first | omega | (simp; done)) Weak.kp ?_
 intro i hi
 have hsn := hexOf_snoc s i
 have hl : (hexOf (s.take i)).length = 2 * i := by rw [hexOf_len, List.length_take]; omega
 generalize hB : hexOf (s.take (i + 1)) = B' at *
 refine Trip.sr tblOk ?_
 refine Trip.seq ?_
 apply Trip.cond (.tmp rfl)
 ·intro h
  have h : i < s.length := by simp at h; omega
  have hsn := hsn h
  generalize hexOf (s.take i) = B at *
  obtain ⟨e1, e2⟩ := shr15 (s.getD (i : Int).toNat 0)
  have hb := (s.getD (i : Int).toNat 0).toNat_lt
  rw [← Int.toNat_natCast i] at hsn
  refine Trip.skip ?_
  refine Trip.seqk ⟨[(0, sV s), (3, .osl 8 0 (2 * (i + 1)) (2 * (i + 1))), (10, iV s.length), (11, iV i)], [(8, .arr 1 false (B'.map u8V))]⟩ ?_ ?_
  ·refine Trip.block (Trip.sr tblOk ?_)
   refine Trip.D tblOk mixed (by repeat' (first | exact rfl | ((with_reducible refine Side.mk ?_); first | omega | (simp only [ln]; first | done | omega) | (simp only [ln] at *; first | done | omega)) | constructor)) ?_
   exact Weak.kp (ht := by repeat' (first | exact rfl | (refine Side.mk (oslE ?_ ?_) <;> (simp only [ln]; first | done | omega)) | constructor)) (ho := by repeat' (first | exact rfl | (refine arrE ?_; rw [e1, e2, hsn, List.map_append]; rfl) | constructor)) (huo := by repeat' (first | exact plainL_map _ (fun _ => rfl) _ | constructor))
  refine Trip.R tblOk (by repeat' (first | exact rfl | ((with_reducible refine Side.mk ?_); omega) | constructor)) ?_
  exact ⟨i + 1, by first | omega | (dsimp only at *; omega), by first | omega | (dsimp only at *; omega), Weak.kp (ho := by repeat' (first | exact rfl | (rw [hB]; rfl) | constructor)) (huo := by repeat' (first | exact plainL_map _ (fun _ => rfl) _ | constructor))⟩
 intro h
 have h : i = s.length := by simp at h; omega
 subst h
 have e8 : s.take s.length = s := List.take_of_length_le (by omega)
 rw [e8] at hl
 rw [e8]
 generalize hexOf s = B at *
 refine Trip.exit (Trip.sR tblOk (by repeat' (first | exact rfl | (apply Rule.sem; intro hγ; with_reducible apply F_bytesToString tblOk hγ) | ((with_reducible refine Side.mk ?_); (simp only [ln]; first | done | omega)) | constructor)) ?_)
 refine Trip.ret (rt1 [])
end Go.Proofs.Tryz
namespace Go.Proofs.Tryz
open Go Go.Sym Go.Graft
set_option maxRecDepth 20000
end Go.Proofs.Tryz
namespace Go.Proofs.Tryz
open Go Go.Sym Go.Graft
set_option maxRecDepth 20000
theorem cWord2 (k : Int) : Ctr prog 106 [iV k] [] (sV (wordK k)) [] [] := by
 refine Ctr.enter tblOk func106 rfl (by decide) rfl (nt := 12) rfl rfl rfl rfl ?_
 refine Trip.sr tblOk ?_
 refine Trip.seq (Trip.sr tblOk ?_)
 refine Trip.block (Trip.sr tblOk ?_)
 apply Trip.cond (.tmp rfl)
 ·intro h
  have h : k = 1 := by simpa using h
  subst h
  refine Trip.sr tblOk ?_
  refine Trip.ret (rt1 [])
 intro h1
 have h1 : ¬ k = 1 := by simpa using h1
 refine Trip.sr tblOk ?_
 apply Trip.cond (.tmp rfl)
 ·intro h
  have h : k = 2 := by simpa using h
  subst h
  refine Trip.sr tblOk ?_
  refine Trip.ret (rt1 [])
 intro h2
 have h2 : ¬ k = 2 := by simpa using h2
 refine Trip.sr tblOk ?_
 apply Trip.cond (.tmp rfl)
 ·intro h
  have h : k = 3 := by simpa using h
  subst h
  refine Trip.sr tblOk ?_
  refine Trip.ret (rt1 [])
 intro h3
 have h3 : ¬ k = 3 := by simpa using h3
 refine Trip.sr tblOk ?_
 apply Trip.cond (.tmp rfl)
 ·intro h
  have h : k = 4 := by simpa using h
  subst h
  refine Trip.sr tblOk ?_
  refine Trip.ret (rt1 [])
 intro h4
 have h4 : ¬ k = 4 := by simpa using h4
 have e : wordK k = [] := by rw [wordK, if_neg h1, if_neg h2, if_neg h3, if_neg h4]
 rw [e]
 refine Trip.skip (Trip.sr tblOk ?_)
 refine Trip.ret (rt1 [])
theorem cCheck14 (k : Int) (b : Str) : Ctr prog 105 [objPV k b] [] (iV (objErr k b)) [] [] := by
 have c := cWord2 k
 have e : objErr k b = if wordK k = [] then 140 else if (1048576 : Int) < b.length then 4 else 0 := rfl
 rw [e]
 generalize wordK k = w at *
 refine Ctr.enter tblOk func105 rfl (by decide) rfl (nt := 11) rfl rfl rfl rfl ?_
 refine Trip.sr tblOk ?_
 refine Trip.seq (Trip.sR tblOk (by repeat' (first | exact rfl | (apply Rule.sem; intro hγ; with_reducible apply F_call0 (x := .func 106) (B := []) hγ (hspec := c)) | ((with_reducible refine Side.mk ?_); exact .inl rfl) | constructor)) ?_)
 apply Trip.cond (.tmp rfl)
 ·intro h
  have h : w = [] := by simpa using h
  rw [if_pos h]
  refine Trip.sr tblOk ?_
  refine Trip.ret (rt1 [])
 intro h
 have h : ¬ w = [] := by simpa using h
 rw [if_neg h]
 refine Trip.skip (Trip.seq (Trip.sr tblOk ?_))
 apply Trip.cond (.tmp rfl)
 ·intro h
  have h : (1048576 : Int) < b.length := by simpa using h
  rw [if_pos h]
  refine Trip.sr tblOk ?_
  refine Trip.ret (rt1 [])
 intro h
 have h : ¬ (1048576 : Int) < b.length := by simpa using h
 rw [if_neg h]
 refine Trip.skip (Trip.sr tblOk ?_)
 refine Trip.ret (rt1 [])
theorem cKinds : Ctr prog 151 [] [] (.agg kindsPV) [] [] := by
 refine Ctr.enter tblOk func151 rfl (by decide) rfl (nt := 6) rfl rfl rfl rfl ?_
 refine Trip.sr tblOk ?_
 refine Trip.sR tblOk (by repeat' (first | exact rfl | (apply Rule.sem; intro hγ; with_reducible apply F_buildArr (dst := some 5) tblOk hγ) | constructor)) ?_
 refine Trip.ret (rt1 [])
end Go.Proofs.Tryz
namespace Go.Proofs.Tryz
open Go Go.Sym Go.Graft
set_option maxRecDepth 20000
theorem cWord (k : Int) : Ctr prog 138 [iV k] [] (sV (wordK k)) [] [] := by
 refine Ctr.enter tblOk func138 rfl (by decide) rfl (nt := 16) rfl rfl rfl rfl ?_
 refine Trip.sr tblOk ?_
 refine Trip.seq (Trip.sR tblOk (by repeat' (first | exact rfl | (apply Rule.sem; intro hγ; with_reducible apply F_call0 (x := .func 151) (B := []) hγ (hspec := cKinds)) | ((with_reducible refine Side.mk ?_); exact .inl rfl) | constructor)) ?_)
 refine Trip.block ?_
 refine Trip.loop (fun (i : Nat) => ⟨[(0, iV k), (5, .agg kindsPV), (6, iV i)], []⟩) (fun (i : Nat) => i ≤ 4 ∧ ∀ j : Nat, j < i → (j : Int) + 1 ≠ k) (fun (i : Nat) => 4 - i) (0) (by exact ⟨by omega, fun j hj => absurd hj (by omega)⟩) Weak.kp ?_
 intro i hi
 obtain ⟨hi, hj⟩ := hi
 refine Trip.sr tblOk ?_
 refine Trip.seq ?_
 apply Trip.cond (.tmp rfl)
 ·intro h
  have h : i < 4 := by simp at h; omega
  have hpart := kinds_part i h
  refine Trip.skip (Trip.seq (Trip.block (Trip.sR tblOk (by repeat' (first | exact rfl | (apply Rule.sem; intro hγ; with_reducible apply F_indexArr tblOk hγ) | exact hpart | ((with_reducible refine Side.mk ?_); omega) | constructor)) ?_)))
  refine Trip.sr tblOk ?_
  apply Trip.cond (.tmp rfl)
  ·intro h2
   have h2 : (i : Int) + 1 = k := by simpa using h2
   rw [h2]
   refine Trip.sr tblOk ?_
   refine Trip.ret (rt1 [])
  intro h2
  have h2 : ¬ (i : Int) + 1 = k := by simpa using h2
  refine Trip.skip (Trip.R tblOk (by repeat' (first | exact rfl | ((with_reducible refine Side.mk ?_); omega) | constructor)) ?_)
  exact ⟨i + 1, by exact ⟨by omega, fun j h3 => (Nat.lt_succ_iff_lt_or_eq.1 h3).elim (hj j) (fun e => e ▸ h2)⟩, by first | omega | (dsimp only at *; omega), Weak.kp⟩
 intro h
 have h : i = 4 := by simp at h; omega
 subst h
 refine Trip.exit ?_
 rw [wordK_none k hj]
 refine Trip.sr tblOk ?_
 refine Trip.ret (rt1 [])
theorem cKind2 (w : Str) : Ctr prog 73 [sV w] [] (iV (kindW w)) [] [] := by
 refine Ctr.enter tblOk func73 rfl (by decide) rfl (nt := 13) rfl rfl rfl rfl ?_
 refine Trip.sr tblOk ?_
 refine Trip.seq (Trip.sr tblOk ?_)
 refine Trip.block ?_
 refine Trip.loop (fun (k : Nat) => ⟨[(0, sV w), (3, iV k)], []⟩) (fun (k : Nat) => 1 ≤ k ∧ k ≤ 5 ∧ ∀ j : Nat, 1 ≤ j → j < k → wordK (j : Int) ≠ w) (fun (k : Nat) => 5 - k) (1) (by exact ⟨by omega, by omega, fun j hj hj2 => absurd hj (by omega)⟩) Weak.kp ?_
 intro k hk
 obtain ⟨hk1, hk2, hj⟩ := hk
 refine Trip.seq (Trip.sr tblOk ?_)
 apply Trip.cond (.tmp rfl)
 ·intro h
  have h : k ≤ 4 := by simp at h; omega
  obtain ⟨hkw, _⟩ := kindW_wordK k hk1 h
  have c := cWord2 (k : Int)
  generalize hw2 : wordK (k : Int) = w2 at *
  refine Trip.skip (Trip.seq (Trip.block (Trip.sR tblOk (by repeat' (first | exact rfl | (apply Rule.sem; intro hγ; with_reducible apply F_call0 (x := .func 106) (B := []) hγ (hspec := c)) | ((with_reducible refine Side.mk ?_); exact .inl rfl) | constructor)) ?_)))
  apply Trip.cond (.tmp rfl)
  ·intro h2
   have h2 : w2 = w := by simpa using h2
   rw [← h2, hkw]
   refine Trip.sr tblOk ?_
   refine Trip.ret (rt1 [])
  intro h2
  have h2 : ¬ w2 = w := by simpa using h2
  refine Trip.skip (Trip.R tblOk (by repeat' (first | exact rfl | ((with_reducible refine Side.mk ?_); omega) | constructor)) ?_)
  exact ⟨k + 1, by exact ⟨by omega, by omega, fun j h4 h3 => (Nat.lt_succ_iff_lt_or_eq.1 h3).elim (hj j h4) (fun e => by rw [e, hw2]; exact h2)⟩, by first | omega | (dsimp only at *; omega), Weak.kp⟩
 intro h
 have h : k = 5 := by simp at h; omega
 subst h
 refine Trip.exit ?_
 rw [kindW_none w hj]
 refine Trip.sr tblOk ?_
 refine Trip.ret (rt1 [])
theorem cDigits14 (n : Nat) (hn : n ≤ 1000000000000) : Ctr prog 107 [iV n] [] (sV (Lib.decDigits n)) [] [] := by
 refine Ctr.enter tblOk func107 rfl (by decide) rfl (nt := 32) rfl rfl rfl rfl ?_
 refine Trip.sr tblOk ?_
 refine Trip.sr tblOk ?_
 refine Trip.seq (Trip.sr tblOk ?_)
 refine Trip.block ?_
 refine Trip.loop (fun (i : Nat × Str) => ⟨[(0, iV n), (3, sV i.2), (4, iV i.1)], []⟩) (fun (i : Nat × Str) => i.2.length + i.1 ≤ n + 1 ∧ (i.2 = [] → i.1 = n) ∧ (i.2 ≠ [] → (if i.1 = 0 then i.2 else Lib.decDigits i.1 ++ i.2) = Lib.decDigits n)) (fun (i : Nat × Str) => 2 * i.1 + (if i.2 = [] then 1 else 0)) ((n, [])) (by exact ⟨by simp, fun _ => rfl, fun h => absurd rfl h⟩) Weak.kp ?_
 intro i hi
 obtain ⟨k, t⟩ := i
 obtain ⟨hi1, hi2, hi3⟩ := hi
 dsimp only at *
 refine Trip.seq (Trip.sR tblOk (by repeat' (first | exact rfl | ((with_reducible refine Side.mk ?_); first | exact fun h => h | exact fun _ h => congrArg Bool.not h) | constructor)) ?_)
 apply Trip.cond (.tmp rfl)
 ·intro h
  have h : k ≠ 0 ∨ t = [] := by
   by_cases hk : k = 0
   ·subst hk; right; simpa using h
   ·exact .inl hk
  have hne : (if UInt8.ofNat (48 + k % 10) :: t = [] then 1 else 0) = (0 : Nat) := if_neg (by simp)
  have e1 := dig_val k
  have e0 := dig_max k
  have hst := dec_step k t
  have hm : (UInt8.ofNat (48 + k % 10) :: t).length + k / 10 ≤ n + 1 := by
   simp only [List.length_cons]
   rcases h with h | h
   ·omega
   ·rw [h] at hi1 ⊢; simp at hi1 ⊢; omega
  have hfin : (if k / 10 = 0 then UInt8.ofNat (48 + k % 10) :: t else Lib.decDigits (k / 10) ++ UInt8.ofNat (48 + k % 10) :: t) = Lib.decDigits n := by
   rw [hst]
   by_cases ht : t = []
   ·rw [ht, hi2 ht, List.append_nil]
   ·have := hi3 ht
    rcases h with h | h
    ·rw [if_neg h] at this; exact this
    ·exact absurd h ht
  have hmu : 2 * (k / 10) + 0 < 2 * k + (if t = [] then 1 else 0) := by
   rcases h with h | h
   ·omega
   ·rw [if_pos h]; omega
  refine Trip.skip ?_
  refine Trip.seqk ⟨[(0, iV n), (3, sV (UInt8.ofNat (48 + k % 10) :: t)), (4, iV k)], []⟩ ?_ ?_
  ·refine Trip.block ?_
   refine Trip.rk ⟨[(0, iV n), (3, sV t), (4, iV k), (5, iV ((k % 10 : Nat) : Int))], []⟩ tblOk (by repeat' (first | exact rfl | ((with_reducible refine Side.mk ?_); omega) | constructor)) Weak.kp ?_
   refine Trip.R tblOk (by repeat' (first | exact rfl | (apply Rule.sem; intro hγ; with_reducible apply F_max hγ) | (apply Rule.sem; intro hγ; with_reducible apply F_bytesToString (dst := some 24) (l := ([UInt8.ofNat (48 + k % 10)])) tblOk hγ) | ((with_reducible refine Side.mk ?_); first | omega | (simp only [ln]; first | done | omega) | exact congrArg (fun z : Int => [PV.v (.int .u8 z)]) e1) | constructor)) ?_
   exact Weak.kp
  refine Trip.R tblOk (by repeat' (first | exact rfl | ((with_reducible refine Side.mk ?_); omega) | constructor)) ?_
  exact ⟨(k / 10, UInt8.ofNat (48 + k % 10) :: t), by exact ⟨hm, fun h => absurd h (by simp), fun _ => hfin⟩, by first | omega | (dsimp only at *; omega), Weak.kp⟩
 intro h
 have h : k = 0 ∧ t ≠ [] := by
  by_cases hk : k = 0
  ·subst hk; exact ⟨rfl, by simpa using h⟩
  ·exfalso; simp [hk] at h
 have hd := hi3 h.2
 rw [if_pos h.1] at hd
 rw [← hd]
 refine Trip.exit (Trip.seq (Trip.sr tblOk ?_))
 apply Trip.cond (.tmp rfl)
 ·intro h2
  exfalso
  simp at h2
  omega
 intro h2
 refine Trip.skip (Trip.sr tblOk ?_)
 refine Trip.ret (rt1 [])
end Go.Proofs.Tryz
namespace Go.Proofs.Tryz
open Go Go.Sym Go.Graft
set_option maxRecDepth 20000
theorem decLen (n : Nat) : n ≤ 1048576 → (Lib.decDigits n).length ≤ 7 := by
 intro h
 have key : ∀ (d n : Nat), n < 10 ^ (d + 1) → (Lib.decDigits n).length ≤ d + 1 := by
  intro d
  induction d with
  | zero => intro n hn; rw [Lib.decDigits, dif_pos (by simpa using hn)]; simp
  | succ d ih =>
   intro n hn
   rw [Lib.decDigits]
   split
   ·simp
   ·have := ih (n / 10) (by rw [Nat.pow_succ] at hn; omega)
    simp; omega
 exact key 6 n (by omega)
theorem cBytes2 (k : Int) (b : Str) : Ctr prog 66 [objPV k b] [] (.tup [sV (objBytes k b), iV (objErr k b)]) [] [] := by
 have c0 := cCheck14 k b
 have c1 := cWord2 k
 have hw := wordK_len k
 have hb : objErr k b = 0 → b.length ≤ 1048576 := by
  unfold objErr
  split
  ·intro h; cases h
  ·split
   ·intro h; cases h
   ·intro _; omega
 have e : objText k b = wordK k ++ [32] ++ Lib.decDigits b.length ++ [0] ++ b := by rw [objText, itoa_nat]
 have e2 : objBytes k b = if objErr k b = 0 then objText k b else [] := rfl
 rw [e2, e]
 generalize wordK k = w at *
 generalize objErr k b = er at *
 refine Ctr.enter tblOk func66 rfl (by decide) rfl (nt := 23) rfl rfl rfl rfl ?_
 refine Trip.sr tblOk ?_
 refine Trip.seq (Trip.sR tblOk (by repeat' (first | exact rfl | (apply Rule.sem; intro hγ; with_reducible apply F_call0 (x := .func 105) (B := []) hγ (hspec := c0)) | ((with_reducible refine Side.mk ?_); exact .inl rfl) | constructor)) ?_)
 refine Trip.sr tblOk ?_
 apply Trip.cond (.tmp rfl)
 ·intro h
  have h : ¬ er = 0 := by simpa using h
  rw [if_neg h]
  refine Trip.sr tblOk ?_
  refine Trip.ret (rt2 [])
 intro h
 have h : er = 0 := by simpa using h
 subst h
 have hb := hb rfl
 have c2 := cDigits14 b.length (by omega)
 have hdl := decLen b.length hb
 rw [if_pos rfl]
 generalize Lib.decDigits b.length = dd at *
 refine Trip.skip (Trip.sD tblOk mixed (by repeat' (first | exact rfl | (apply Rule.sem; intro hγ; with_reducible apply F_call0 (x := .func 106) (B := []) hγ (hspec := c1)) | (apply Rule.sem; intro hγ; with_reducible apply F_call0 (x := .func 107) (B := []) hγ (hspec := c2)) | ((with_reducible refine Side.mk ?_); first | exact .inl rfl | (simp only [ln]; first | done | omega)) | constructor)) ?_)
 refine Trip.ret (rt2 [])
theorem cId2 (k : Int) (b : Str) : Ctr prog 44 [objPV k b] [] (sV (objId k b)) [] [] := by
 have c0 := cBytes2 k b
 have e2 : objBytes k b = if objErr k b = 0 then objText k b else [] := rfl
 have e3 : objId k b = if objErr k b = 0 then idOf (objText k b) else [] := rfl
 have hl : objErr k b = 0 → (objText k b).length ≤ 1000000000 := by
  intro h
  have hb : b.length ≤ 1048576 := by
   unfold objErr at h
   split at h
   ·cases h
   ·split at h
    ·cases h
    ·omega
  have := wordK_len k
  have := decLen b.length hb
  simp only [objText, itoa_nat, List.length_append, List.length_cons, List.length_nil]
  omega
 rw [e3]
 rw [e2] at c0
 have c1 := fun h => cOf2 (objText k b) (hl h)
 generalize objErr k b = er at *
 generalize objText k b = tx at *
 refine Ctr.enter tblOk func44 rfl (by decide) rfl (nt := 14) rfl rfl rfl rfl ?_
 refine Trip.sr tblOk ?_
 refine Trip.sR tblOk (by repeat' (first | exact rfl | (apply Rule.sem; intro hγ; with_reducible apply F_call0 (x := .func 66) (B := []) hγ (hspec := c0)) | ((with_reducible refine Side.mk ?_); exact .inl rfl) | constructor)) ?_
 refine Trip.seq (Trip.sr tblOk ?_)
 apply Trip.cond (.tmp rfl)
 ·intro h
  have h : ¬ er = 0 := by simpa using h
  simp only [if_neg h]
  refine Trip.sr tblOk ?_
  refine Trip.ret (rt1 [])
 intro h
 have h : er = 0 := by simpa using h
 subst h
 have c1 := c1 rfl
 refine Trip.skip ?_
 simp only [if_true]
 generalize idOf tx = d at *
 refine Trip.sR tblOk (by repeat' (first | exact rfl | (apply Rule.sem; intro hγ; with_reducible apply F_call0 (x := .func 76) (B := []) hγ (hspec := c1)) | ((with_reducible refine Side.mk ?_); exact .inl rfl) | constructor)) ?_
 refine Trip.ret (rt1 [])
end Go.Proofs.Tryz
