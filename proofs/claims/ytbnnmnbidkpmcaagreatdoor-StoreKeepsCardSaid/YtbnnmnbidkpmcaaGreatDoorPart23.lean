/- A part of the proof: Gs, GHex, Ge, Gf, Gg. -/
import Derived.Deep.Draws
import Derived.Test.YtbnnmnbidkpmcaaGreatDoorPart22
import Derived.Lib.Bytealg
import Derived.Test.YtbnnmnbidkpmcaaGreatDoorPart21
set_option linter.unusedVariables false
set_option linter.unusedSimpArgs false
namespace Go.Proofs.Tryz
open Go Go.Sym Go.Graft
set_option maxRecDepth 20000
theorem grown_drewN (w : World) (n : Nat) : Grown w (w.drewN n) := ⟨rfl, rfl, rfl, Nat.le_refl _, fun _ _ => rfl⟩
theorem grown_grow (w : World) (os : Array Obj) : Grown w (Go.Sort.grow w os) :=
 ⟨rfl, rfl, rfl, by simp [Go.Sort.grow], fun b hb => by simp [Go.Sort.grow, Array.getElem?_append, hb]⟩
theorem grown_bytes (w : World) (e : TypeId) (t : ByteArray) : Grown w (Lib.bytesWorld w e t) := by
 obtain ⟨h1, h2, h3⟩ := bytesWorld_heap w e t
 exact ⟨h1, h2, h3, by rw [Lib.bytesWorld_size]; omega, fun b hb => Lib.bytesWorld_at_old w e t b hb⟩
theorem max_at {w : World} (h : Globals prog w) : ∃ m, w.cell? ⟨gMax, 0, none⟩ = some (.int .i64 m) := by
 obtain ⟨ob, h1, m, cs, e, f, rfl, h2⟩ := h (gMax, isInt) (.head _)
 simp only at h1
 exact ⟨m, by simp [World.cell?, h1, h2]⟩
theorem pow_at {w : World} (h : Globals prog w) : Lib.TabIs prog w "internal/strconv.uint64pow10" .u64 Lib.pow10Tab := by
 obtain ⟨ob, h1, e, f, rfl⟩ := h (gPow, rowIs (Lib.pow10Tab.map fun z => .int .u64 z)) (by repeat (first | exact .head _ | apply List.Mem.tail))
 simp only at h1
 have hg : prog.globalNamed "internal/strconv.uint64pow10" = some gPow := by kernel_rfl
 simp [Lib.TabIs, World.var?, hg, h1]
theorem sIndexByte (s : Str) (c : UInt8) : Ctr prog 219 [sV s, u8V c] [] (iV (Lib.indexByte s c)) [] [] :=
 Ctr.of_calls (xs := [.string ⟨⟨s⟩⟩, .int .u8 c.toNat]) ⟨_, func219, rfl, rfl⟩ rfl (fun _ _ _ => .v _ _) fun w _ => by
  refine (Tryz.strings_IndexByte ⟨⟨s⟩⟩ c.toNat w).mono ?_
  rintro e w' ⟨rfl, rfl⟩
  exact ⟨by simp, Grown.refl _⟩
theorem sHasPrefix (s p : Str) : Ctr prog 114 [sV s, sV p] [] (bV (Lib.hasPrefix s p)) [] [] :=
 Ctr.of_calls (xs := [.string ⟨⟨s⟩⟩, .string ⟨⟨p⟩⟩]) ⟨_, func114, rfl, rfl⟩ rfl (fun _ _ _ => .v _ _) fun w _ => by
  refine (Tryz.strings_HasPrefix ⟨⟨s⟩⟩ ⟨⟨p⟩⟩ w).mono ?_
  rintro e w' ⟨rfl, rfl⟩
  exact ⟨rfl, Grown.refl _⟩
theorem sCutPrefix (s p : Str) : Ctr prog 143 [sV s, sV p] [] (.tup [sV (Lib.trimPrefix s p), bV (Lib.hasPrefix s p)]) [] [] :=
 Ctr.of_calls (xs := [.string ⟨⟨s⟩⟩, .string ⟨⟨p⟩⟩]) ⟨_, func143, rfl, rfl⟩ rfl (fun _ _ _ => .tup (.cons (.v _ _) (.cons (.v _ _) (.nil _)))) fun w _ => by
  refine (Tryz.strings_CutPrefix ⟨⟨s⟩⟩ ⟨⟨p⟩⟩ w).mono ?_
  rintro e w' ⟨rfl, rfl⟩
  exact ⟨rfl, Grown.refl _⟩
theorem sCompare (s p : Str) : Ctr prog 77 [sV s, sV p] [] (iV (Lib.compareBytes s p)) [] [] :=
 Ctr.of_calls (xs := [.string ⟨⟨s⟩⟩, .string ⟨⟨p⟩⟩]) ⟨_, func77, rfl, rfl⟩ rfl (fun _ _ _ => .v _ _) fun w _ => by
  refine (Tryz.strings_Compare ⟨⟨s⟩⟩ ⟨⟨p⟩⟩ w).mono ?_
  rintro e w' ⟨rfl, rfl⟩
  exact ⟨rfl, Grown.refl _⟩
theorem sItoa (n : Int) (h0 : -9223372036854775808 ≤ n) (h1 : n ≤ 9223372036854775807) : Ctr prog 108 [iV n] [] (sV (Lib.itoa n)) [] [] :=
 Ctr.of_calls (xs := [.int .i64 n]) ⟨_, func108, rfl, rfl⟩ rfl (fun _ _ _ => .v _ _) fun w hg => by
  refine (Tryz.strconv_Itoa n h0 h1 w (pow_at hg)).mono ?_
  rintro e w' ⟨rfl, k, os, rfl⟩
  exact ⟨rfl, (grown_drewN w k).trans (grown_grow _ os)⟩
theorem sAtoi (s : Str) (n : Int) (hl : s.length ≤ 18) (h : Lib.atoi s = some n) : Ctr prog 208 [sV s] [] (.tup [iV n, .v .nilIface]) [] [] :=
 Ctr.of_calls (xs := [.string ⟨⟨s⟩⟩]) ⟨_, func208, rfl, rfl⟩ rfl (fun _ _ _ => .tup (.cons (.v _ _) (.cons (.v _ _) (.nil _)))) fun w _ => by
  refine (Tryz.strconv_Atoi ⟨⟨s⟩⟩ n hl h w).mono ?_
  rintro e w' ⟨rfl, t, rfl⟩
  exact ⟨rfl, grown_bytes _ _ _⟩
theorem sCut (s p : Str) (hs : s.length < 4294967281) : Ctr prog 110 [sV s, sV p] [] (.tup [sV (Lib.cut s p).1, sV (Lib.cut s p).2.1, bV (Lib.cut s p).2.2]) [] [] :=
 Ctr.of_calls (xs := [.string ⟨⟨s⟩⟩, .string ⟨⟨p⟩⟩]) ⟨_, func110, rfl, rfl⟩ rfl (fun _ _ _ => .tup (.cons (.v _ _) (.cons (.v _ _) (.cons (.v _ _) (.nil _))))) fun w hg => by
  obtain ⟨m, hm⟩ := max_at hg
  refine (Tryz.strings_Cut ⟨⟨s⟩⟩ ⟨⟨p⟩⟩ m w hs hm).mono ?_
  rintro e w' ⟨rfl, n, rfl⟩
  exact ⟨rfl, grown_drewN _ _⟩
theorem sContains (s p : Str) (hs : s.length < 4294967281) : Ctr prog 153 [sV s, sV p] [] (bV (Lib.contains s p)) [] [] :=
 Ctr.of_calls (xs := [.string ⟨⟨s⟩⟩, .string ⟨⟨p⟩⟩]) ⟨_, func153, rfl, rfl⟩ rfl (fun _ _ _ => .v _ _) fun w hg => by
  obtain ⟨m, hm⟩ := max_at hg
  refine (Tryz.strings_Contains ⟨⟨s⟩⟩ ⟨⟨p⟩⟩ m w hs hm).mono ?_
  rintro e w' ⟨rfl, rfl⟩
  exact ⟨rfl, Grown.refl _⟩
end Go.Proofs.Tryz
namespace Go.Graft
def hexv (c : UInt8) : Int := if 48 ≤ c.toNat ∧ c.toNat ≤ 57 then (c.toNat : Int) - 48 else if 97 ≤ c.toNat ∧ c.toNat ≤ 102 then (c.toNat : Int) - 87 else -1
def allHex (s : Str) : Bool := s.all fun c => decide (0 ≤ hexv c)
def isId (s : Str) : Bool := decide (s.length = 40) && allHex s
theorem hexv_cases (c : UInt8) : (48 ≤ c.toNat → c.toNat ≤ 57 → hexv c = (c.toNat : Int) - 48) ∧ (97 ≤ c.toNat → c.toNat ≤ 102 → hexv c = (c.toNat : Int) - 87) ∧ (¬ (48 ≤ c.toNat ∧ c.toNat ≤ 57) → ¬ (97 ≤ c.toNat ∧ c.toNat ≤ 102) → hexv c = -1) := by
 refine ⟨fun h1 h2 => ?_, fun h1 h2 => ?_, fun h1 h2 => ?_⟩
 ·rw [hexv, if_pos ⟨h1, h2⟩]
 ·rw [hexv, if_neg (by omega), if_pos ⟨h1, h2⟩]
 ·rw [hexv, if_neg h1, if_neg h2]
theorem wrap8s (c : UInt8) (k : Nat) (h1 : k ≤ c.toNat) (h2 : c.toNat < 256) : IntKind.wrap .u8 ((c.toNat : Int) - (k : Int)) = ((c.toNat - k : Nat) : Int) := by
 have : ((c.toNat : Int) - (k : Int)) = ((c.toNat - k : Nat) : Int) := by omega
 rw [this]; simp [IntKind.wrap, IntKind.bits, IntKind.signed]; omega
theorem wrap64n (n : Nat) (h : n < 256) : IntKind.wrap .i64 (n : Int) = (n : Int) := by simp [IntKind.wrap, IntKind.bits, IntKind.signed]; omega
def hexDigs : Str := [48, 49, 50, 51, 52, 53, 54, 55, 56, 57, 97, 98, 99, 100, 101, 102]
theorem index_hex (c : UInt8) : Lib.indexByte hexDigs c = hexv c := by
 have key : ∀ n : Fin 256, Lib.indexByte hexDigs (UInt8.ofNat n.val) = hexv (UInt8.ofNat n.val) := by decide +kernel
 have := key ⟨c.toNat, c.toNat_lt⟩
 simpa using this
theorem hexDigit_at (n : Nat) (h : n < 16) : hexDigs.getD n 0 = hexDigit n := by
 have key : ∀ n : Fin 16, hexDigs.getD n.val 0 = hexDigit n.val := by decide
 exact key ⟨n, h⟩
theorem all_false {p : UInt8 → Bool} {s : Str} {i : Nat} (h : i < s.length) (hp : p (s.getD i 0) = false) : s.all p = false := by
 rw [List.all_eq_false]
 refine ⟨s[i], List.getElem_mem h, ?_⟩
 rw [List.getD_eq_getElem?_getD, List.getElem?_eq_getElem h] at hp
 simpa using hp
theorem all_true {p : UInt8 → Bool} {s : Str} (h : ∀ i, i < s.length → p (s.getD i 0) = true) : s.all p = true := by
 rw [List.all_eq_true]
 intro x hx
 obtain ⟨i, hi, rfl⟩ := List.getElem_of_mem hx
 have := h i hi
 rw [List.getD_eq_getElem?_getD, List.getElem?_eq_getElem hi] at this
 simpa using this
theorem allHex_false {s : Str} {i : Nat} (h : i < s.length) (hp : hexv (s.getD i 0) < 0) : allHex s = false := all_false h (decide_eq_false (by omega))
theorem allHex_true {s : Str} (h : ∀ i, i < s.length → 0 ≤ hexv (s.getD i 0)) : allHex s = true := all_true fun i hi => decide_eq_true (h i hi)
theorem hexOf_snoc (s : Str) (i : Nat) (h : i < s.length) : hexOf (s.take (i + 1)) = hexOf (s.take i) ++ [hexDigs.getD ((s.getD i 0).toNat / 16) 0, hexDigs.getD ((s.getD i 0).toNat % 16) 0] := by
 have := (s.getD i 0).toNat_lt
 rw [hexDigit_at _ (by omega), hexDigit_at _ (by omega), take_snoc s i h, getD_bang]
 simp [hexOf]
theorem hexOf_len : ∀ s : Str, (hexOf s).length = 2 * s.length
 | [] => rfl
 | x :: r => by
  have := hexOf_len r
  simp only [hexOf, List.flatMap_cons, List.length_append, List.length_cons, List.length_nil] at this ⊢
  omega
end Go.Graft
namespace Go.Proofs.Tryz
open Go Go.Sym Go.Graft
set_option maxRecDepth 20000
theorem cDigit2 (c : UInt8) : Ctr prog 162 [u8V c] [] (iV (hexv c)) [] [] := by
 obtain ⟨q1, q2, q3⟩ := hexv_cases c
 refine Ctr.enter tblOk func162 rfl (by decide) rfl (nt := 22) rfl rfl rfl rfl ?_
 refine Trip.sr tblOk ?_
 refine Trip.seq (Trip.sR tblOk (by repeat' (first | exact rfl | ((with_reducible refine Side.mk ?_); first | exact fun h => h | exact fun _ h => h) | constructor)) ?_)
 apply Trip.cond (.tmp rfl)
 ·intro h
  have h : 48 ≤ c.toNat ∧ c.toNat ≤ 57 := by simp at h; omega
  rw [q1 h.1 h.2]
  have hc := c.toNat_lt
  have e1 : IntKind.wrap .i64 (IntKind.wrap .u8 ((c.toNat : Int) - 48)) = (c.toNat : Int) - 48 := by
   have := wrap8s c 48 h.1 hc
   rw [show ((48 : Nat) : Int) = 48 from rfl] at this
   rw [this, wrap64n _ (by omega)]; omega
  refine Trip.sr tblOk ?_
  refine Trip.ret (rt1 [] (hc := by repeat' (exact cvI e1)))
 intro h
 refine Trip.skip ?_
 have h : ¬ (48 ≤ c.toNat ∧ c.toNat ≤ 57) := by simp at h; omega
 refine Trip.seq (Trip.sR tblOk (by repeat' (first | exact rfl | ((with_reducible refine Side.mk ?_); first | exact fun h => h | exact fun _ h => h) | constructor)) ?_)
 apply Trip.cond (.tmp rfl)
 ·intro h3
  have h3 : 97 ≤ c.toNat ∧ c.toNat ≤ 102 := by simp at h3; omega
  rw [q2 h3.1 h3.2]
  have hc := c.toNat_lt
  have e1 : IntKind.wrap .i64 (IntKind.wrap .u8 ((c.toNat : Int) - 97)) = (c.toNat : Int) - 97 := by
   have := wrap8s c 97 h3.1 hc
   rw [show ((97 : Nat) : Int) = 97 from rfl] at this
   rw [this, wrap64n _ (by omega)]; omega
  refine Trip.sR tblOk (by repeat' (first | exact rfl | ((with_reducible refine Side.mk ?_); omega) | constructor)) ?_
  refine Trip.ret (rt1 [] (hc := by repeat' (exact cvI (by rw [e1]; omega))))
 intro h3
 have h3 : ¬ (97 ≤ c.toNat ∧ c.toNat ≤ 102) := by simp at h3; omega
 refine Trip.skip ?_
 rw [q3 h h3]
 refine Trip.sr tblOk ?_
 refine Trip.ret (rt1 [])
end Go.Proofs.Tryz
namespace Go.Proofs.Tryz
open Go Go.Sym Go.Graft
set_option maxRecDepth 20000
theorem cDigits2 (s : Str) (hs : s.length ≤ 1000000000000) : Ctr prog 134 [sV s] [] (bV (allHex s)) [] [] := by
 refine Ctr.enter tblOk func134 rfl (by decide) rfl (nt := 15) rfl rfl rfl rfl ?_
 refine Trip.sr tblOk ?_
 refine Trip.seq (Trip.sr tblOk ?_)
 refine Trip.block ?_
 refine Trip.loop (fun (i : Nat) => ⟨[(0, sV s), (3, iV i)], []⟩) (fun (i : Nat) => i ≤ s.length ∧ ∀ j, j < i → 0 ≤ hexv (s.getD j 0)) (fun (i : Nat) => s.length - i) (0) (by exact ⟨Nat.zero_le _, fun j hj => absurd hj (by omega)⟩) Weak.kp ?_
 intro i hi
 obtain ⟨hi, hj⟩ := hi
 refine Trip.seq (Trip.sr tblOk ?_)
 apply Trip.cond (.tmp rfl)
 ·intro h
  have h : i < s.length := by simp at h; omega
  refine Trip.skip (Trip.seq (Trip.block (Trip.sR tblOk (by repeat' (first | exact rfl | (apply Rule.sem; intro hγ; with_reducible apply F_call0 (x := .func 162) (B := []) hγ (hspec := (cDigit2 _))) | ((with_reducible refine Side.mk ?_); first | omega | exact .inl rfl) | constructor)) ?_)))
  apply Trip.cond (.tmp rfl)
  ·intro h2
   have h2 : hexv (s.getD i 0) < 0 := by simpa using h2
   rw [allHex_false h h2]
   refine Trip.sr tblOk ?_
   refine Trip.ret (rt1 [] (hc := by repeat' (exact cvB (by simp only [List.length_map]))))
  intro h2
  have h2 : 0 ≤ hexv (s.getD i 0) := by simpa using h2
  refine Trip.skip (Trip.R tblOk (by repeat' (first | exact rfl | ((with_reducible refine Side.mk ?_); omega) | constructor)) ?_)
  exact ⟨i + 1, by exact ⟨by omega, fun j h3 => (Nat.lt_succ_iff_lt_or_eq.1 h3).elim (hj j) (fun e => e ▸ h2)⟩, by first | omega | (dsimp only at *; omega), Weak.kp⟩
 intro h
 have h : i = s.length := by simp at h; omega
 subst h
 refine Trip.exit ?_
 rw [allHex_true hj]
 refine Trip.sr tblOk ?_
 refine Trip.ret (rt1 [] (hc := by repeat' (exact cvB (by simp only [List.length_map]))))
theorem cIs2 (s : Str) (hs : s.length ≤ 1000000000000) : Ctr prog 88 [sV s] [] (bV (isId s)) [] [] := by
 have e : isId s = (decide ((s.length : Int) = 40) && allHex s) := by
  have : decide ((s.length : Int) = 40) = decide (s.length = 40) := by simp; omega
  rw [isId, this]
 rw [e]
 refine Ctr.enter tblOk func88 rfl (by decide) rfl (nt := 10) rfl rfl rfl rfl ?_
 refine Trip.sr tblOk ?_
 refine Trip.sR tblOk (by repeat' (first | exact rfl | (apply Rule.sem; intro hγ; with_reducible apply F_call0 (x := .func 134) (B := []) hγ (hspec := (cDigits2 s hs))) | ((with_reducible refine Side.mk ?_); first | exact .inl rfl | exact fun h => h | exact fun _ h => h) | constructor)) ?_
 refine Trip.ret (rt1 [] (hc := by repeat' (exact cvB (by simp only [List.length_map]))))
theorem cHex2 (s : Str) (hs : s.length ≤ 1000000000) : Ctr prog 83 [sV s] [] (sV (hexOf s)) [] [] := by
 refine Ctr.enter tblOk func83 rfl (by decide) rfl (nt := 30) rfl rfl rfl rfl ?_
 refine Trip.sr tblOk ?_
 refine Trip.sr tblOk ?_
 refine Trip.sr tblOk ?_
 refine Trip.seq (Trip.sr tblOk ?_)
 refine Trip.block ?_
 refine Trip.loop (fun (i : Nat) => ⟨[(0, sV s), (3, sV hexDigs), (4, .osl 6 0 (2 * i) (2 * i)), (5, iV i)], [(6, .arr 1 false ((hexOf (s.take i)).map u8V))]⟩) (fun (i : Nat) => i ≤ s.length) (fun (i : Nat) => s.length - i) (0) (by first | omega | (simp; done)) Weak.kp ?_
 intro i hi
 have hsn := hexOf_snoc s i
 have hl : (hexOf (s.take i)).length = 2 * i := by rw [hexOf_len, List.length_take]; omega
 generalize hB : hexOf (s.take (i + 1)) = B' at *
 refine Trip.seq (Trip.sr tblOk ?_)
 apply Trip.cond (.tmp rfl)
 ·intro h
  have h : i < s.length := by simp at h; omega
  have hsn := hsn h
  generalize hexOf (s.take i) = B at *
  have hb := (s.getD i 0).toNat_lt
  generalize hc : s.getD i 0 = c at *
  have e1 : IntKind.wrap .u8 (Int.tdiv ((s.getD ((i : Int).toNat) 0).toNat : Int) 16) = ((c.toNat / 16 : Nat) : Int) := by
   rw [Int.toNat_natCast, hc]
   have : Int.tdiv (c.toNat : Int) 16 = ((c.toNat / 16 : Nat) : Int) := by rw [Int.tdiv_eq_ediv_of_nonneg (by omega)]; simp
   rw [this]; simp [IntKind.wrap, IntKind.bits, IntKind.signed]; omega
  have e2 : Int.tmod ((s.getD ((i : Int).toNat) 0).toNat : Int) 16 = ((c.toNat % 16 : Nat) : Int) := by
   rw [Int.toNat_natCast, hc, Int.tmod_eq_emod_of_nonneg (by omega)]; simp
  refine Trip.skip ?_
  refine Trip.seqk ⟨[(0, sV s), (3, sV hexDigs), (4, .osl 6 0 (2 * (i + 1)) (2 * (i + 1))), (5, iV i)], [(6, .arr 1 false (B'.map u8V))]⟩ ?_ ?_
  ·refine Trip.block (Trip.D tblOk mixed (by repeat' (first | exact rfl | ((with_reducible refine Side.mk ?_); first | omega | (simp only [ln]; first | done | omega) | (rw [e1]; show 0 ≤ _ ∧ _ < ((16 : Nat) : Int); omega) | (rw [e2]; show 0 ≤ _ ∧ _ < ((16 : Nat) : Int); omega)) | constructor)) ?_)
   exact Weak.kp (ht := by repeat' (first | exact rfl | (refine Side.mk (oslE ?_ ?_) <;> (simp only [ln]; first | done | omega)) | constructor)) (ho := by repeat' (first | exact rfl | (refine arrE ?_; rw [e1, e2, hsn, List.map_append]; rfl) | constructor)) (huo := by repeat' (first | exact plainL_map _ (fun _ => rfl) _ | constructor))
  refine Trip.R tblOk (by repeat' (first | exact rfl | ((with_reducible refine Side.mk ?_); omega) | constructor)) ?_
  exact ⟨i + 1, by first | omega | (dsimp only at *; omega), by first | omega | (dsimp only at *; omega), Weak.kp (ho := by repeat' (first | exact rfl | (rw [hB]; rfl) | constructor)) (huo := by repeat' (first | exact plainL_map _ (fun _ => rfl) _ | constructor))⟩
 intro h
 have h : i = s.length := by simp at h; omega
 subst h
 have e8 : s.take s.length = s := List.take_of_length_le (by omega)
 rw [e8] at hl
 rw [e8]
 generalize hexOf s = B at *
 refine Trip.exit (Trip.sR tblOk (by repeat' (first | exact rfl | (apply Rule.sem; intro hγ; with_reducible apply F_bytesToString tblOk hγ) | ((with_reducible refine Side.mk ?_); (simp only [ln]; first | done | omega)) | constructor)) ?_)
 refine Trip.ret (rt1 [])
theorem cOf2 (s : Str) (hs : s.length ≤ 1000000000) : Ctr prog 49 [sV s] [] (sV (idOf s)) [] [] := by
 have hl := sha_len s
 have c1 := cDigest2 s hs
 have c2 := cHex2 ((sha s).take 20) (by rw [List.length_take]; omega)
 have e : idOf s = hexOf ((sha s).take 20) := rfl
 rw [e]
 generalize sha s = d at *
 refine Ctr.enter tblOk func49 rfl (by decide) rfl (nt := 7) rfl rfl rfl rfl ?_
 refine Trip.sr tblOk ?_
 refine Trip.sR tblOk (by repeat' (first | exact rfl | (apply Rule.sem; intro hγ; with_reducible apply F_call0 (x := .func 84) (B := []) hγ (hspec := c1)) | (apply Rule.sem; intro hγ; with_reducible apply F_call0 (x := .func 83) (B := []) hγ (hspec := c2)) | ((first | with_reducible refine bokR ?_ | with_reducible refine Side.mk ?_); first | omega | exact .inl rfl) | constructor)) ?_
 refine Trip.ret (rt1 [])
end Go.Proofs.Tryz
namespace Go.Proofs.Tryz
open Go Go.Sym Go.Graft
set_option maxRecDepth 20000
theorem cValue (c : UInt8) : Ctr prog 207 [u8V c] [] (iV (hexv c)) [] [] := by
 have c1 := sIndexByte hexDigs c
 rw [index_hex] at c1
 refine Ctr.enter tblOk func207 rfl (by decide) rfl (nt := 5) rfl rfl rfl rfl ?_
 refine Trip.sr tblOk ?_
 refine Trip.sR tblOk (by repeat' (first | exact rfl | (apply Rule.sem; intro hγ; with_reducible apply F_call0 (x := .func 219) (B := []) hγ (hspec := c1)) | ((with_reducible refine Side.mk ?_); exact .inl rfl) | constructor)) ?_
 refine Trip.ret (rt1 [])
theorem cAll (s : Str) (hs : s.length ≤ 1000000000000) : Ctr prog 182 [sV s] [] (bV (allHex s)) [] [] := by
 refine Ctr.enter tblOk func182 rfl (by decide) rfl (nt := 15) rfl rfl rfl rfl ?_
 refine Trip.sr tblOk ?_
 refine Trip.seq (Trip.sr tblOk ?_)
 refine Trip.block ?_
 refine Trip.loop (fun (i : Nat) => ⟨[(0, sV s), (5, iV s.length), (6, iV i)], []⟩) (fun (i : Nat) => i ≤ s.length ∧ ∀ j, j < i → 0 ≤ hexv (s.getD j 0)) (fun (i : Nat) => s.length - i) (0) (by exact ⟨Nat.zero_le _, fun j hj => absurd hj (by omega)⟩) Weak.kp ?_
 intro i hi
 obtain ⟨hi, hj⟩ := hi
 refine Trip.sr tblOk ?_
 refine Trip.seq ?_
 apply Trip.cond (.tmp rfl)
 ·intro h
  have h : i < s.length := by simp at h; omega
  refine Trip.skip (Trip.seq (Trip.block (Trip.sr tblOk ?_)))
  refine Trip.sR tblOk (by repeat' (first | exact rfl | (apply Rule.sem; intro hγ; with_reducible apply F_call0 (x := .func 207) (B := []) hγ (hspec := (cValue _))) | ((with_reducible refine Side.mk ?_); first | omega | exact .inl rfl) | constructor)) ?_
  apply Trip.cond (.tmp rfl)
  ·intro h2
   have h2 : hexv (s.getD i 0) < 0 := by simpa using h2
   rw [allHex_false h h2]
   refine Trip.sr tblOk ?_
   refine Trip.ret (rt1 [] (hc := by repeat' (exact cvB (by simp only [List.length_map]))))
  intro h2
  have h2 : 0 ≤ hexv (s.getD i 0) := by simpa using h2
  refine Trip.skip (Trip.R tblOk (by repeat' (first | exact rfl | ((with_reducible refine Side.mk ?_); omega) | constructor)) ?_)
  exact ⟨i + 1, by exact ⟨by omega, fun j h3 => (Nat.lt_succ_iff_lt_or_eq.1 h3).elim (hj j) (fun e => e ▸ h2)⟩, by first | omega | (dsimp only at *; omega), Weak.kp⟩
 intro h
 have h : i = s.length := by simp at h; omega
 subst h
 refine Trip.exit ?_
 rw [allHex_true hj]
 refine Trip.sr tblOk ?_
 refine Trip.ret (rt1 [] (hc := by repeat' (exact cvB (by simp only [List.length_map]))))
theorem cIs (s : Str) (hs : s.length ≤ 1000000000000) : Ctr prog 148 [sV s] [] (bV (isId s)) [] [] := by
 have e : isId s = (decide ((s.length : Int) = 40) && allHex s) := by
  have : decide ((s.length : Int) = 40) = decide (s.length = 40) := by simp; omega
  rw [isId, this]
 rw [e]
 refine Ctr.enter tblOk func148 rfl (by decide) rfl (nt := 10) rfl rfl rfl rfl ?_
 refine Trip.sr tblOk ?_
 refine Trip.sR tblOk (by repeat' (first | exact rfl | (apply Rule.sem; intro hγ; with_reducible apply F_call0 (x := .func 182) (B := []) hγ (hspec := (cAll s hs))) | ((with_reducible refine Side.mk ?_); first | exact .inl rfl | exact fun h => h | exact fun _ h => h) | constructor)) ?_
 refine Trip.ret (rt1 [] (hc := by repeat' (exact cvB (by simp only [List.length_map]))))
end Go.Proofs.Tryz
