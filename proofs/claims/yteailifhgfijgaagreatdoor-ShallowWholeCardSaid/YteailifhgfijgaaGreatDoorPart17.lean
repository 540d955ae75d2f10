/- A part of the proof: GSha, GShb, GHex, GFind, GNam, GPer, GMsc, GHlv, GIt, GCmp, GSame, GFlt, GSpl, GPath, GEnt. -/
import Derived.Test.YteailifhgfijgaaGreatDoorPart16
import Derived.Lib.Bytealg
import Derived.Lib.Strings
import Derived.Lib.Split
set_option linter.unusedVariables false
set_option linter.unusedSimpArgs false
namespace Go.Graft
abbrev Str := List UInt8
abbrev W32 := BitVec 32
def rotr (x : W32) (n : Nat) : W32 := (x >>> n) ||| (x <<< (32 - n))
def sg0 (x : W32) : W32 := rotr x 7 ^^^ rotr x 18 ^^^ (x >>> 3)
def sg1 (x : W32) : W32 := rotr x 17 ^^^ rotr x 19 ^^^ (x >>> 10)
def bs0 (x : W32) : W32 := rotr x 2 ^^^ rotr x 13 ^^^ rotr x 22
def bs1 (x : W32) : W32 := rotr x 6 ^^^ rotr x 11 ^^^ rotr x 25
def be32 (a b c d : UInt8) : W32 := BitVec.ofNat 32 (((a.toNat * 256 + b.toNat) * 256 + c.toNat) * 256 + d.toNat)
def wd (b : Str) (i : Nat) : W32 := be32 b[4 * i]! b[4 * i + 1]! b[4 * i + 2]! b[4 * i + 3]!
def wsStep (ws : List W32) : List W32 := ws ++ [sg1 ws[ws.length - 2]! + ws[ws.length - 7]! + sg0 ws[ws.length - 15]! + ws[ws.length - 16]!]
def wsN (b : Str) : Nat → List W32
 | 0 => (List.range 16).map (wd b)
 | k + 1 => wsStep (wsN b k)
def rnd (k w : W32) : List W32 → List W32
 | [a, b, c, d, e, f, g, h] =>
  let x := h + bs1 e + ((e &&& f) ^^^ (~~~e &&& g)) + k + w
  let y := bs0 a + ((a &&& b) ^^^ (a &&& c) ^^^ (b &&& c))
  [x + y, a, b, c, d + x, e, f, g]
 | l => l
def keys : List W32 := [
 0x428a2f98, 0x71374491, 0xb5c0fbcf, 0xe9b5dba5, 0x3956c25b, 0x59f111f1, 0x923f82a4, 0xab1c5ed5,
 0xd807aa98, 0x12835b01, 0x243185be, 0x550c7dc3, 0x72be5d74, 0x80deb1fe, 0x9bdc06a7, 0xc19bf174,
 0xe49b69c1, 0xefbe4786, 0x0fc19dc6, 0x240ca1cc, 0x2de92c6f, 0x4a7484aa, 0x5cb0a9dc, 0x76f988da,
 0x983e5152, 0xa831c66d, 0xb00327c8, 0xbf597fc7, 0xc6e00bf3, 0xd5a79147, 0x06ca6351, 0x14292967,
 0x27b70a85, 0x2e1b2138, 0x4d2c6dfc, 0x53380d13, 0x650a7354, 0x766a0abb, 0x81c2c92e, 0x92722c85,
 0xa2bfe8a1, 0xa81a664b, 0xc24b8b70, 0xc76c51a3, 0xd192e819, 0xd6990624, 0xf40e3585, 0x106aa070,
 0x19a4c116, 0x1e376c08, 0x2748774c, 0x34b0bcb5, 0x391c0cb3, 0x4ed8aa4a, 0x5b9cca4f, 0x682e6ff3,
 0x748f82ee, 0x78a5636f, 0x84c87814, 0x8cc70208, 0x90befffa, 0xa4506ceb, 0xbef9a3f7, 0xc67178f2]
def first : List W32 := [0x6a09e667, 0xbb67ae85, 0x3c6ef372, 0xa54ff53a, 0x510e527f, 0x9b05688c, 0x1f83d9ab, 0x5be0cd19]
def rdN (ws : List W32) (h : List W32) : Nat → List W32
 | 0 => h
 | t + 1 => rnd keys[t]! ws[t]! (rdN ws h t)
def comp (h : List W32) (b : Str) : List W32 := List.zipWith (· + ·) h (rdN (wsN b 48) h 64)
def foldB (l : Str) (h : List W32) : Nat → List W32
 | 0 => h
 | k + 1 => comp (foldB l h k) ((l.drop (64 * k)).take 64)
def be64 (n : Nat) : Str := (List.range 8).map fun i => UInt8.ofNat (n / 256 ^ (7 - i))
def zpad (n : Nat) : Nat := (119 - n % 64) % 64
def tailB (n : Nat) : Str := 128 :: (List.replicate (zpad n) 0 ++ be64 (8 * n))
def padB (s : Str) : Str := s ++ tailB s.length
def bytes32 (x : W32) : Str := [UInt8.ofNat (x >>> 24).toNat, UInt8.ofNat (x >>> 16).toNat, UInt8.ofNat (x >>> 8).toNat, UInt8.ofNat x.toNat]
def sha (s : Str) : Str := (foldB (padB s) first ((padB s).length / 64)).flatMap bytes32
def hexDigit (n : Nat) : UInt8 := if n < 10 then UInt8.ofNat (48 + n) else UInt8.ofNat (87 + n)
def hexOf (raw : Str) : Str := raw.flatMap fun b => [hexDigit (b.toNat / 16), hexDigit (b.toNat % 16)]
def idOf (s : Str) : Str := hexOf ((sha s).take 20)
end Go.Graft
namespace Go.Graft
theorem be32_nat (a b c d : UInt8) : (be32 a b c d).toNat = ((a.toNat * 256 + b.toNat) * 256 + c.toNat) * 256 + d.toNat := by
 have := a.toNat_lt; have := b.toNat_lt; have := c.toNat_lt; have := d.toNat_lt
 simp [be32]; omega
theorem sh8 (a : UInt8) (n : Nat) (h : n ≤ 24) : (BitVec.ofNat 32 a.toNat <<< n).toNat = a.toNat * 2 ^ n := by
 have := a.toNat_lt
 have h1 : 2 ^ n ≤ 2 ^ 24 := Nat.pow_le_pow_right (by omega) h
 have h2 : a.toNat * 2 ^ n ≤ 255 * 2 ^ 24 := Nat.mul_le_mul (by omega) h1
 rw [BitVec.toNat_shiftLeft, Nat.shiftLeft_eq, BitVec.toNat_ofNat, Nat.mod_eq_of_lt (a := a.toNat) (by omega), Nat.mod_eq_of_lt (by omega)]
theorem be32_add (a b c d : UInt8) : BitVec.ofNat 32 a.toNat <<< 24 + BitVec.ofNat 32 b.toNat <<< 16 + BitVec.ofNat 32 c.toNat <<< 8 + BitVec.ofNat 32 d.toNat = be32 a b c d := by
 have := a.toNat_lt; have := b.toNat_lt; have := c.toNat_lt; have := d.toNat_lt
 apply BitVec.eq_of_toNat_eq
 rw [be32_nat]
 simp only [BitVec.toNat_add, sh8 _ _ (Nat.le_refl 24), sh8 _ 16 (by omega), sh8 _ 8 (by omega), BitVec.toNat_ofNat]
 omega
theorem wsN_length (b : Str) : ∀ k, (wsN b k).length = 16 + k
 | 0 => by simp [wsN]
 | k + 1 => by simp [wsN, wsStep, wsN_length b k]; omega
theorem wsN_succ (b : Str) (k : Nat) : wsN b (k + 1) = wsN b k ++ [sg1 (wsN b k)[14 + k]! + (wsN b k)[9 + k]! + sg0 (wsN b k)[1 + k]! + (wsN b k)[k]!] := by
 show wsStep (wsN b k) = _
 rw [wsStep, wsN_length, show 16 + k - 2 = 14 + k by omega, show 16 + k - 7 = 9 + k by omega, show 16 + k - 15 = 1 + k by omega, show 16 + k - 16 = k by omega]
theorem getD_bang (l : Str) (i : Nat) : l[i]! = l.getD i 0 := by
 simp [List.getD_eq_getElem?_getD, getElem!_def]
 cases l[i]? <;> rfl
theorem blk_get (s : Str) (at_ i : Nat) (h : i < 64) : ((s.drop at_).take 64).getD i 0 = s.getD (at_ + i) 0 := by
 simp [List.getD_eq_getElem?_getD, List.getElem?_take, h]
theorem rnd_eq (k w : W32) (v : List W32) (h : v.length = 8) : rnd k w v = [(v[7]! + bs1 v[4]! + ((v[4]! &&& v[5]!) ^^^ (~~~v[4]! &&& v[6]!)) + k + w) + (bs0 v[0]! + ((v[0]! &&& v[1]!) ^^^ (v[0]! &&& v[2]!) ^^^ (v[1]! &&& v[2]!))), v[0]!, v[1]!, v[2]!, v[3]! + (v[7]! + bs1 v[4]! + ((v[4]! &&& v[5]!) ^^^ (~~~v[4]! &&& v[6]!)) + k + w), v[4]!, v[5]!, v[6]!] := by
 match v, h with
 | [a, b, c, d, e, f, g, h], _ => rfl
theorem zip8 (h v : List W32) (hh : h.length = 8) (hv : v.length = 8) : List.zipWith (· + ·) h v = [h[0]! + v[0]!, h[1]! + v[1]!, h[2]! + v[2]!, h[3]! + v[3]!, h[4]! + v[4]!, h[5]! + v[5]!, h[6]! + v[6]!, h[7]! + v[7]!] := by
 match h, v, hh, hv with
 | [a, b, c, d, e, f, g, h], [a', b', c', d', e', f', g', h'], _, _ => rfl
theorem rnd_len (k w : W32) (l : List W32) (h : l.length = 8) : (rnd k w l).length = 8 := by
 match l, h with
 | [a, b, c, d, e, f, g, h], _ => rfl
theorem rdN_len (ws h : List W32) (hh : h.length = 8) : ∀ t, (rdN ws h t).length = 8
 | 0 => hh
 | t + 1 => rnd_len _ _ _ (rdN_len ws h hh t)
theorem comp_len (h : List W32) (b : Str) (hh : h.length = 8) : (comp h b).length = 8 := by simp [comp, rdN_len _ _ hh, hh]
theorem foldB_len (l : Str) (h : List W32) (hh : h.length = 8) : ∀ k, (foldB l h k).length = 8
 | 0 => hh
 | k + 1 => comp_len _ _ (foldB_len l h hh k)
theorem be64_at (m j : Nat) (h : j ≤ 7) : IntKind.wrap .u8 (Int.fdiv (m : Int) (2 ^ min (8 * (7 - (j : Int))).toNat (IntKind.bits .u64))) = ((UInt8.ofNat (m / 256 ^ (7 - j))).toNat : Int) := by
 have e1 : (8 * (7 - (j : Int))).toNat = 8 * (7 - j) := by omega
 rw [e1, show IntKind.bits .u64 = 64 from rfl, Nat.min_eq_left (by omega)]
 have e2 : Int.fdiv (m : Int) (2 ^ (8 * (7 - j))) = ((m / 2 ^ (8 * (7 - j)) : Nat) : Int) := by
  rw [Int.fdiv_eq_ediv_of_nonneg _ (by exact_mod_cast Nat.zero_le _)]; simp
 rw [e2, Nat.pow_mul]
 simp [IntKind.wrap, IntKind.bits, IntKind.signed]
theorem zpad_ne (n i : Nat) (h : i < zpad n) : (n + (i + 1)) % 64 ≠ 56 := by unfold zpad at h; omega
theorem zpad_eq (n : Nat) : (n + (zpad n + 1)) % 64 = 56 := by unfold zpad; omega
theorem zpad_lt (n : Nat) : zpad n < 64 := by unfold zpad; omega
theorem padB_len (s : Str) : (padB s).length = 64 * ((padB s).length / 64) ∧ (padB s).length = s.length + (zpad s.length + 9) := by
 have h : (padB s).length = s.length + (zpad s.length + 9) := by simp [padB, tailB, be64]
 refine ⟨?_, h⟩
 rw [h]
 have := zpad_eq s.length
 omega
def beN (m j : Nat) : Str := (List.range j).map fun i => UInt8.ofNat (m / 256 ^ (7 - i))
theorem beN_zero (m : Nat) : beN m 0 = [] := rfl
theorem beN_len (m j : Nat) : (beN m j).length = j := by simp [beN]
theorem beN_eight (m : Nat) : beN m 8 = be64 m := rfl
theorem beN_succ (m j : Nat) : beN m (j + 1) = beN m j ++ [UInt8.ofNat (m / 256 ^ (7 - j))] := by
 rw [beN, List.range_succ, List.map_append]; rfl
theorem take_snoc {α : Type} [Inhabited α] (l : List α) (i : Nat) (h : i < l.length) : l.take (i + 1) = l.take i ++ [l[i]!] := by
 rw [List.take_add_one, List.getElem?_eq_getElem h, getElem!_pos l i h]; rfl
theorem flat_len : ∀ l : List W32, (l.flatMap bytes32).length = 4 * l.length
 | [] => rfl
 | x :: r => by rw [List.flatMap_cons, List.length_append, flat_len r]; simp [bytes32]; omega
theorem sha_len (s : Str) : (sha s).length = 32 := by rw [sha, flat_len, foldB_len _ _ rfl]
theorem foldB_succ (l : Str) (h : List W32) (k : Nat) : foldB l h (k + 1) = List.zipWith (· + ·) (foldB l h k) (rdN (wsN ((l.drop (64 * k)).take 64) 48) (foldB l h k) 64) := rfl
end Go.Graft
namespace Go.Graft
def hexv (c : UInt8) : Int := if 48 ≤ c.toNat ∧ c.toNat ≤ 57 then (c.toNat : Int) - 48 else if 97 ≤ c.toNat ∧ c.toNat ≤ 102 then (c.toNat : Int) - 87 else -1
def allHex (s : Str) : Bool := s.all fun c => decide (0 ≤ hexv c)
def isId (s : Str) : Bool := decide (s.length = 40) && allHex s
theorem hexv_cases (c : UInt8) : (48 ≤ c.toNat → c.toNat ≤ 57 → hexv c = (c.toNat : Int) - 48) ∧ (97 ≤ c.toNat → c.toNat ≤ 102 → hexv c = (c.toNat : Int) - 87) ∧ (¬ (48 ≤ c.toNat ∧ c.toNat ≤ 57) → ¬ (97 ≤ c.toNat ∧ c.toNat ≤ 102) → hexv c = -1) := by
 refine ⟨fun h1 h2 => ?_, fun h1 h2 => ?_, fun h1 h2 => ?_⟩
 ·rw [hexv, if_pos ⟨h1, h2⟩]
 ·rw [hexv, if_neg (by omega), if_pos ⟨h1, h2⟩]
 ·rw [hexv, if_neg h1, if_neg h2]
theorem wrap8s (c : UInt8) (k : Nat) (h1 : k ≤ c.toNat) (h2 : c.toNat < 256) : IntKind.wrap .u8 ((c.toNat : Int) - (k : Int)) = ((c.toNat - k : Nat) : Int) := by
 have : ((c.toNat : Int) - (k : Int)) = ((c.toNat - k : Nat) : Int) := by omega
 rw [this]; simp [IntKind.wrap, IntKind.bits, IntKind.signed]; omega
theorem wrap64n (n : Nat) (h : n < 256) : IntKind.wrap .i64 (n : Int) = (n : Int) := by simp [IntKind.wrap, IntKind.bits, IntKind.signed]; omega
def hexDigs : Str := [48, 49, 50, 51, 52, 53, 54, 55, 56, 57, 97, 98, 99, 100, 101, 102]
theorem index_hex (c : UInt8) : Lib.indexByte hexDigs c = hexv c := by
 have key : ∀ n : Fin 256, Lib.indexByte hexDigs (UInt8.ofNat n.val) = hexv (UInt8.ofNat n.val) := by decide +kernel
 have := key ⟨c.toNat, c.toNat_lt⟩
 simpa using this
theorem hexDigit_at (n : Nat) (h : n < 16) : hexDigs.getD n 0 = hexDigit n := by
 have key : ∀ n : Fin 16, hexDigs.getD n.val 0 = hexDigit n.val := by decide
 exact key ⟨n, h⟩
theorem all_false {p : UInt8 → Bool} {s : Str} {i : Nat} (h : i < s.length) (hp : p (s.getD i 0) = false) : s.all p = false := by
 rw [List.all_eq_false]
 refine ⟨s[i], List.getElem_mem h, ?_⟩
 rw [List.getD_eq_getElem?_getD, List.getElem?_eq_getElem h] at hp
 simpa using hp
theorem all_true {p : UInt8 → Bool} {s : Str} (h : ∀ i, i < s.length → p (s.getD i 0) = true) : s.all p = true := by
 rw [List.all_eq_true]
 intro x hx
 obtain ⟨i, hi, rfl⟩ := List.getElem_of_mem hx
 have := h i hi
 rw [List.getD_eq_getElem?_getD, List.getElem?_eq_getElem hi] at this
 simpa using this
theorem allHex_false {s : Str} {i : Nat} (h : i < s.length) (hp : hexv (s.getD i 0) < 0) : allHex s = false := all_false h (decide_eq_false (by omega))
theorem allHex_true {s : Str} (h : ∀ i, i < s.length → 0 ≤ hexv (s.getD i 0)) : allHex s = true := all_true fun i hi => decide_eq_true (h i hi)
theorem hexOf_snoc (s : Str) (i : Nat) (h : i < s.length) : hexOf (s.take (i + 1)) = hexOf (s.take i) ++ [hexDigs.getD ((s.getD i 0).toNat / 16) 0, hexDigs.getD ((s.getD i 0).toNat % 16) 0] := by
 have := (s.getD i 0).toNat_lt
 rw [hexDigit_at _ (by omega), hexDigit_at _ (by omega), take_snoc s i h, getD_bang]
 simp [hexOf]
theorem hexOf_len : ∀ s : Str, (hexOf s).length = 2 * s.length
 | [] => rfl
 | x :: r => by
  have := hexOf_len r
  simp only [hexOf, List.flatMap_cons, List.length_append, List.length_cons, List.length_nil] at this ⊢
  omega
end Go.Graft
namespace Go.Graft
theorem indexByte_none : ∀ {l : Str} {c : UInt8}, (∀ j, j < l.length → l.getD j 0 ≠ c) → Lib.indexByte l c = -1
 | [], c, _ => rfl
 | b :: l, c, h => by
  have h0 : b ≠ c := by have := h 0 (by simp); simpa using this
  have ih := indexByte_none (l := l) (c := c) fun j hj => by have := h (j + 1) (by simp; omega); simpa using this
  rw [Lib.indexByte, if_neg (by simpa using h0), ih]; rfl
theorem indexByte_some : ∀ {l : Str} {c : UInt8} {k : Nat}, k < l.length → (∀ j, j < k → l.getD j 0 ≠ c) → l.getD k 0 = c → Lib.indexByte l c = (k : Int)
 | [], c, k, h, _, _ => by simp at h
 | b :: l, c, 0, _, _, h => by
  have : b = c := by simpa using h
  rw [Lib.indexByte, if_pos (by simpa using this)]; rfl
 | b :: l, c, k + 1, hk, hj, h => by
  have h0 : b ≠ c := by have := hj 0 (by omega); simpa using this
  have ih := indexByte_some (l := l) (c := c) (k := k) (by simpa using hk) (fun j hj2 => by have := hj (j + 1) (by omega); simpa using this) (by simpa using h)
  rw [Lib.indexByte, if_neg (by simpa using h0), ih]
  have : ((k : Int) == -1) = false := by simp
  rw [this]; simp
def findB (s : Str) (c : UInt8) (a : Nat) : Int := if Lib.indexByte (s.drop a) c < 0 then -1 else a + Lib.indexByte (s.drop a) c
theorem getD_drop (s : Str) (a j : Nat) : (s.drop a).getD j 0 = s.getD (a + j) 0 := by
 simp [List.getD_eq_getElem?_getD, List.getElem?_drop]
theorem findB_none {s : Str} {c : UInt8} {a : Nat} (h : ∀ j, a ≤ j → j < s.length → s.getD j 0 ≠ c) : findB s c a = -1 := by
 rw [findB, indexByte_none (fun j hj => by rw [getD_drop]; exact h _ (by omega) (by rw [List.length_drop] at hj; omega))]; rfl
theorem findB_some {s : Str} {c : UInt8} {a i : Nat} (ha : a ≤ i) (hi : i < s.length) (h : ∀ j, a ≤ j → j < i → s.getD j 0 ≠ c) (hc : s.getD i 0 = c) : findB s c a = (i : Int) := by
 have := indexByte_some (l := s.drop a) (c := c) (k := i - a) (by rw [List.length_drop]; omega) (fun j hj => by rw [getD_drop]; exact h _ (by omega) (by omega)) (by rw [getD_drop, show a + (i - a) = i by omega]; exact hc)
 rw [findB, this, if_neg (by omega)]; omega
theorem u8_ne {a b : UInt8} (h : ¬ (a.toNat : Int) = (b.toNat : Int)) : a ≠ b := fun e => h (by rw [e])
theorem u8_eq {a b : UInt8} (h : (a.toNat : Int) = (b.toNat : Int)) : a = b := UInt8.toNat.inj (by omega)
end Go.Graft
namespace Go.Graft
def namBad (s : Str) : Bool := decide ((s.length : Int) < 1) || decide (64 < (s.length : Int)) || decide (((s.getD 0 0).toNat : Int) = 32) || decide (((s.getD ((s.length : Int) - 1).toNat 0).toNat : Int) = 32)
def namC (c : UInt8) : Bool := decide ((c.toNat : Int) < 32) || decide ((c.toNat : Int) = 60) || decide ((c.toNat : Int) = 62)
def namOk (s : Str) : Bool := !namBad s && s.all fun c => !namC c
theorem namOk_bad {s : Str} (h : namBad s = true) : namOk s = false := by rw [namOk, h]; rfl
theorem namOk_false {s : Str} {i : Nat} (h : i < s.length) (hp : namC (s.getD i 0) = true) : namOk s = false := by
 rw [namOk, all_false (p := fun c => !namC c) h (by rw [hp]; rfl), Bool.and_false]
theorem namOk_true {s : Str} (hb : namBad s = false) (h : ∀ i, i < s.length → namC (s.getD i 0) = false) : namOk s = true := by
 rw [namOk, hb, all_true (p := fun c => !namC c) fun i hi => by rw [h i hi]; rfl]; rfl
end Go.Graft
namespace Go.Graft
open Go.Sym
structure Per where
 name : Str
 mail : Str
 time : Int
 zone : Int
@[reducible] def perPV (n m : Str) (t z : Int) : PV := .agg [sV n, sV m, iV t, iV z]
def perOk (n m : Str) (t z : Int) : Bool := namOk n && namOk m && decide (0 ≤ t) && decide (t ≤ 1099511627776) && decide (-840 ≤ z) && decide (z ≤ 840)
@[reducible] def entPV (m : Int) (n i : Str) : PV := .agg [iV m, sV n, sV i]
def keyE (m : Int) (n : Str) : Str := if m = 4 then n ++ [47] else n
def modeD (m : Int) : Str := if m = 1 then [49, 48, 48, 54, 52, 52, 32] else if m = 2 then [49, 48, 48, 55, 53, 53, 32] else if m = 3 then [49, 50, 48, 48, 48, 48, 32] else [52, 48, 48, 48, 48, 32]
end Go.Graft
namespace Go.Graft
def modeP (m : Int) : Str := if m = 1 then [49, 48, 48, 54, 52, 52, 32] else if m = 2 then [49, 48, 48, 55, 53, 53, 32] else if m = 3 then [49, 50, 48, 48, 48, 48, 32] else if m = 4 then [52, 48, 48, 48, 48, 32] else []
def zC (c : UInt8) : Bool := decide ((c.toNat : Int) = 0)
def hasZ (s : Str) : Bool := !(s.all fun c => !zC c)
theorem hasZ_true {s : Str} {i : Nat} (h : i < s.length) (hp : zC (s.getD i 0) = true) : hasZ s = true := by
 rw [hasZ, all_false (p := fun c => !zC c) h (by rw [hp]; rfl)]; rfl
theorem hasZ_false {s : Str} (h : ∀ i, i < s.length → zC (s.getD i 0) = false) : hasZ s = false := by
 rw [hasZ, all_true (p := fun c => !zC c) fun i hi => by rw [h i hi]; rfl]; rfl
def hasS (l : List Str) (x : Str) : Bool := decide (x ∈ l)
theorem hasS_true {l : List Str} {i : Nat} {x : Str} (h : i < l.length) (hx : l[i]! = x) : hasS l x = true := by
 rw [hasS, decide_eq_true_eq, ← hx, getElem!_pos l i h]; exact List.getElem_mem h
theorem hasS_false {l : List Str} {x : Str} (h : ∀ i, i < l.length → l[i]! ≠ x) : hasS l x = false := by
 rw [hasS, decide_eq_false_iff_not]
 intro hm
 obtain ⟨i, hi, e⟩ := List.getElem_of_mem hm
 exact h i hi (by rw [getElem!_pos l i hi]; exact e)
end Go.Graft
namespace Go.Graft
def hv (less : Nat → Bool) : Nat → Nat → Nat → Nat
 | 0, lo, _ => lo
 | f + 1, lo, hi => if lo < hi then (if less ((lo + hi) / 2) then hv less f ((lo + hi) / 2 + 1) hi else hv less f lo ((lo + hi) / 2)) else lo
theorem hv_fuel (less : Nat → Bool) : ∀ (f f' lo hi : Nat), hi - lo ≤ f → hi - lo ≤ f' → hv less f lo hi = hv less f' lo hi
 | 0, 0, lo, hi, _, _ => rfl
 | 0, f' + 1, lo, hi, h, _ => by rw [hv, hv, if_neg (by omega)]
 | f + 1, 0, lo, hi, _, h => by rw [hv, hv, if_neg (by omega)]
 | f + 1, f' + 1, lo, hi, h, h' => by
  rw [hv, hv]
  split
  ·split
   ·exact hv_fuel less f f' _ _ (by omega) (by omega)
   ·exact hv_fuel less f f' _ _ (by omega) (by omega)
  ·rfl
def halve (less : Nat → Bool) (n : Nat) : Nat := hv less n 0 n
def hvAt (less : Nat → Bool) (lo hi : Nat) : Nat := hv less (hi - lo) lo hi
theorem hvAt_lt (less : Nat → Bool) (lo hi : Nat) (h : lo < hi) : hvAt less lo hi = if less ((lo + hi) / 2) then hvAt less ((lo + hi) / 2 + 1) hi else hvAt less lo ((lo + hi) / 2) := by
 rw [hvAt, hv_fuel less (hi - lo) (hi - lo + 1) lo hi (by omega) (by omega), hv, if_pos h]
 split
 ·exact hv_fuel less _ _ _ _ (by omega) (by omega)
 ·exact hv_fuel less _ _ _ _ (by omega) (by omega)
theorem hvAt_ge (less : Nat → Bool) (lo hi : Nat) (h : ¬ lo < hi) : hvAt less lo hi = lo := by
 rw [hvAt, show hi - lo = 0 by omega, hv]
theorem halve_eq (less : Nat → Bool) (n : Nat) : halve less n = hvAt less 0 n := by rw [halve, hvAt, Nat.sub_zero]
theorem hvAt_le (less : Nat → Bool) : ∀ (d lo hi : Nat), hi - lo = d → lo ≤ hi → lo ≤ hvAt less lo hi ∧ hvAt less lo hi ≤ hi := by
 intro d
 induction d using Nat.strongRecOn with
 | _ d ih =>
  intro lo hi hd hle
  by_cases h : lo < hi
  ·rw [hvAt_lt less lo hi h]
   split
   ·have := ih (hi - ((lo + hi) / 2 + 1)) (by omega) ((lo + hi) / 2 + 1) hi rfl (by omega)
    omega
   ·have := ih ((lo + hi) / 2 - lo) (by omega) lo ((lo + hi) / 2) rfl (by omega)
    omega
  ·rw [hvAt_ge less lo hi h]; omega
def spot (l : List Str) (x : Str) : Nat := halve (fun i => Op.bytesLess l[i]! x) l.length
end Go.Graft
namespace Go.Graft
open Go.Sym
structure It where
 id : Str
 kind : Int
 body : Str
 deriving Inhabited
@[reducible] def It.pv (x : It) : PV := .agg [sV x.id, iV x.kind, sV x.body]
def place (l : List It) (x : Str) : Nat := halve (fun i => Op.bytesLess l[i]!.id x) l.length
def placed (l : List It) (x : Str) : Bool := decide (((place l x : Nat) : Int) < (l.length : Int)) && decide (l[((place l x : Nat) : Int).toNat]!.id = x)
end Go.Graft
namespace Go.Graft
theorem cmp_eq : ∀ a b : Str, (Lib.compareBytes a b = 0 ↔ a = b) ∧ (Lib.compareBytes a b < 0 ↔ Op.bytesLess a b = true)
 | [], [] => by simp [Lib.compareBytes, Op.bytesLess]
 | [], b :: y => by simp [Lib.compareBytes, Op.bytesLess]
 | a :: x, [] => by simp [Lib.compareBytes, Op.bytesLess]
 | a :: x, b :: y => by
  obtain ⟨h1, h2⟩ := cmp_eq x y
  have tri : a < b ∨ b < a ∨ a = b := by
   rcases Nat.lt_trichotomy a.toNat b.toNat with h | h | h
   ·exact .inl (UInt8.lt_iff_toNat_lt.2 h)
   ·exact .inr (.inr (UInt8.toNat.inj h))
   ·exact .inr (.inl (UInt8.lt_iff_toNat_lt.2 h))
  have irr : ¬ b < b := by simp
  simp only [Lib.compareBytes, Op.bytesLess]
  rcases tri with h | h | h
  ·have hne : ¬ a = b := fun e => irr (e ▸ h)
   simp [h, hne]
  ·have hne : ¬ a = b := fun e => irr (e ▸ h)
   have hnl : ¬ a < b := fun h' => by have h3 := UInt8.lt_iff_toNat_lt.1 h; have h4 := UInt8.lt_iff_toNat_lt.1 h'; omega
   simp [h, hne, hnl]
  ·subst h
   simp [h1, h2]
end Go.Graft
namespace Go.Graft
instance : DecidableEq It := fun a b =>
 if h : a.id = b.id ∧ a.kind = b.kind ∧ a.body = b.body then isTrue (by cases a; cases b; simp at h; obtain ⟨h1, h2, h3⟩ := h; subst h1; subst h2; subst h3; rfl) else isFalse (fun e => h (by subst e; exact ⟨rfl, rfl, rfl⟩))
end Go.Graft
namespace Go.Graft
end Go.Graft
namespace Go.Graft
def pre (x : Str) : List Str → List Str
 | [] => []
 | y :: ys => (x ++ y) :: ys
def splitC (c : UInt8) : Str → List Str
 | [] => [[]]
 | b :: r => if b = c then [] :: splitC c r else pre [b] (splitC c r)
theorem pre_nil (l : List Str) : pre [] l = l := by cases l <;> rfl
theorem pre_pre (x y : Str) (l : List Str) : pre x (pre y l) = pre (x ++ y) l := by cases l <;> simp [pre]
theorem splitC_at (c : UInt8) (s : Str) (i : Nat) (h : i < s.length) : splitC c (s.drop i) = if s.getD i 0 = c then [] :: splitC c (s.drop (i + 1)) else pre [s.getD i 0] (splitC c (s.drop (i + 1))) := by
 rw [List.drop_eq_getElem_cons h, splitC]
 have : s.getD i 0 = s[i] := by simp [List.getD_eq_getElem?_getD, h]
 rw [this]
theorem pre_length (x : Str) (l : List Str) : (pre x l).length = l.length := by cases l <;> rfl
theorem splitC_length (c : UInt8) : ∀ s : Str, 1 ≤ (splitC c s).length ∧ (splitC c s).length ≤ s.length + 1
 | [] => by simp [splitC]
 | b :: r => by
  have := splitC_length c r
  simp only [splitC]
  split
  ·simp; omega
  ·rw [pre_length]; simp; omega
theorem splitC_mem_len (c : UInt8) : ∀ (s : Str) (x : Str), x ∈ splitC c s → x.length ≤ s.length
 | [], x, h => by simp [splitC] at h; subst h; simp
 | b :: r, x, h => by
  have ih := splitC_mem_len c r
  simp only [splitC] at h
  split at h
  ·simp at h
   rcases h with rfl | h
   ·simp
   ·have := ih x h; simp; omega
  ·cases hs : splitC c r with
   | nil => rw [hs] at h; simp [pre] at h
   | cons y ys =>
    rw [hs] at h
    simp [pre] at h
    rcases h with rfl | h
    ·have := ih y (by rw [hs]; simp); simp; omega
    ·have := ih x (by rw [hs]; simp [h]); simp; omega
theorem splitC_mem_ne (c : UInt8) : ∀ (s : Str) (x : Str), x ∈ splitC c s → c ∉ x
 | [], x, h => by simp [splitC] at h; subst h; simp
 | b :: r, x, h => by
  have ih := splitC_mem_ne c r
  simp only [splitC] at h
  split at h
  ·simp at h
   rcases h with rfl | h
   ·simp
   ·exact ih x h
  ·rename_i hb
   cases hs : splitC c r with
   | nil => rw [hs] at h; simp [pre] at h
   | cons y ys =>
    rw [hs] at h
    simp [pre] at h
    rcases h with rfl | h
    ·have := ih y (by rw [hs]; simp)
     simp [this]
     exact fun e => hb e.symm
    ·exact ih x (by rw [hs]; simp [h])
theorem index_one_cons (b c : UInt8) (r : Str) : Lib.index (b :: r) [c] = if b = c then 0 else (if Lib.index r [c] = -1 then -1 else Lib.index r [c] + 1) := by
 rw [Lib.index]
 by_cases h : b = c
 ·subst h; simp [List.isPrefixOf]
 ·have hp : ([c] : List UInt8).isPrefixOf (b :: r) = false := by simp [List.isPrefixOf, Ne.symm h]
  rw [hp, if_neg h]
  simp only [beq_iff_eq, Bool.false_eq_true, if_false]
theorem index_one (c : UInt8) : ∀ s : Str, Lib.index s [c] = Lib.indexByte s c
 | [] => by simp [Lib.index, Lib.indexByte]
 | b :: r => by
  rw [index_one_cons, Lib.indexByte, index_one c r]
  simp only [beq_iff_eq]
theorem split_eq (c : UInt8) : ∀ s : Str, Lib.split s [c] = splitC c s
 | [] => by simp [Lib.split, splitC, Lib.splitK, Lib.count_miss (show Lib.index [] [c] = -1 by simp [Lib.index])]
 | b :: r => by
  have ih := split_eq c r
  rw [Lib.split] at ih ⊢
  simp only [splitC]
  by_cases h : b = c
  ·subst h
   have hix : Lib.index (b :: r) [b] = ((0 : Nat) : Int) := by rw [index_one_cons, if_pos rfl]; rfl
   have hcnt := Lib.count_hit (s := b :: r) (sub := [b]) (by simp) hix
   simp only [if_true]
   rw [hcnt, Nat.add_comm, Lib.splitK, hix]
   simp [ih]
  ·rw [if_neg h]
   by_cases hm : Lib.index r [c] = -1
   ·have hm2 : Lib.index (b :: r) [c] = -1 := by rw [index_one_cons, if_neg h, if_pos hm]
    rw [Lib.count_miss hm] at ih
    rw [Lib.count_miss hm2, Lib.splitK, ← ih, Lib.splitK]
    rfl
   ·have hge := Lib.index_ge r [c]
    obtain ⟨j, hj⟩ : ∃ j : Nat, Lib.index r [c] = j := ⟨(Lib.index r [c]).toNat, by omega⟩
    have hix : Lib.index (b :: r) [c] = ((j + 1 : Nat) : Int) := by rw [index_one_cons, if_neg h, if_neg hm, hj]; omega
    rw [Lib.count_hit (by simp) hj] at ih
    rw [Lib.count_hit (by simp) hix, Nat.add_comm, Lib.splitK, hix]
    rw [Nat.add_comm, Lib.splitK, hj] at ih
    have e1 : ¬ (((j : Nat) : Int) == -1) = true := by simp
    have e2 : ¬ (((j + 1 : Nat) : Int) == -1) = true := by simp; omega
    rw [if_neg e1] at ih
    rw [if_neg e2, ← ih]
    simp only [List.length_singleton, Int.toNat_natCast, Nat.add_zero, List.take_succ_cons, List.drop_succ_cons, pre, List.singleton_append]
end Go.Graft
namespace Go.Graft
def partBad (s : Str) : Bool := decide ((s.length : Int) < 1) || decide (64 < (s.length : Int)) || decide (s = [46]) || decide (s = [46, 46]) || decide (s = [46, 103, 114, 97, 102, 116])
def partOk (s : Str) : Bool := !partBad s && s.all fun c => decide (32 ≤ c.toNat)
def partOk2 (s : Str) : Bool := !partBad s && s.all fun c => decide (32 ≤ c.toNat) && !decide ((c.toNat : Int) = 47)
theorem partOk_bad {s : Str} (h : partBad s = true) : partOk s = false ∧ partOk2 s = false := by rw [partOk, partOk2, h]; exact ⟨rfl, rfl⟩
theorem partOk_false {s : Str} {i : Nat} (h : i < s.length) (hp : ¬ 32 ≤ (s.getD i 0).toNat) : partOk s = false := by
 rw [partOk, all_false h (decide_eq_false hp), Bool.and_false]
theorem partOk_true {s : Str} (hb : partBad s = false) (h : ∀ i, i < s.length → 32 ≤ (s.getD i 0).toNat) : partOk s = true := by
 rw [partOk, hb, all_true fun i hi => decide_eq_true (h i hi)]; rfl
theorem partOk2_false {s : Str} {i : Nat} (h : i < s.length) (hp : ¬ (32 ≤ (s.getD i 0).toNat ∧ ¬ ((s.getD i 0).toNat : Int) = 47)) : partOk2 s = false := by
 rw [partOk2, all_false (p := fun c => decide (32 ≤ c.toNat) && !decide ((c.toNat : Int) = 47)) h ?_, Bool.and_false]
 by_cases h1 : 32 ≤ (s.getD i 0).toNat
 ·have h2 : ((s.getD i 0).toNat : Int) = 47 := by
   by_cases h2 : ((s.getD i 0).toNat : Int) = 47
   ·exact h2
   ·exact absurd ⟨h1, h2⟩ hp
  rw [decide_eq_true h1, decide_eq_true h2]; rfl
 ·rw [decide_eq_false h1, Bool.false_and]
theorem partOk2_true {s : Str} (hb : partBad s = false) (h : ∀ i, i < s.length → 32 ≤ (s.getD i 0).toNat ∧ ¬ ((s.getD i 0).toNat : Int) = 47) : partOk2 s = true := by
 rw [partOk2, hb, all_true fun i hi => by rw [decide_eq_true (h i hi).1, decide_eq_false (h i hi).2]; rfl]; rfl
end Go.Graft
namespace Go.Graft
open Go.Sym
def pathOk (p : Str) : Bool := decide (p ≠ []) && decide ((p.length : Int) ≤ 255) && (splitC 47 p).all partOk && decide (((splitC 47 p).length : Int) ≤ 16)
theorem part_same {c : UInt8} {s x : Str} (hc : c = 47) (h : x ∈ splitC c s) : partOk2 x = partOk x := by
 have hn := splitC_mem_ne c s x h
 subst hc
 have e : (x.all fun c => decide (32 ≤ c.toNat) && !decide ((c.toNat : Int) = 47)) = x.all fun c => decide (32 ≤ c.toNat) := by
  rw [Bool.eq_iff_iff, List.all_eq_true, List.all_eq_true]
  constructor
  ·intro h y hy
   have := h y hy
   simp only [Bool.and_eq_true] at this
   exact this.1
  ·intro h y hy
   have h1 := h y hy
   have h2 : ¬ ((y.toNat : Int) = 47) := fun e => hn (by
    have : y = 47 := UInt8.toNat.inj (by show y.toNat = 47; omega)
    rw [← this]; exact hy)
   simp [h1, h2]
 rw [partOk2, partOk, e]
structure En where
 mode : Int
 name : Str
 id : Str
 deriving Inhabited
@[reducible] def En.pv (x : En) : PV := entPV x.mode x.name x.id
def En.key (x : En) : Str := keyE x.mode x.name
def mayE (x : En) : Bool := decide (1 ≤ x.mode) && decide (x.mode ≤ 4) && pathOk x.name && decide (Lib.indexByte x.name 47 < 0) && isId x.id
def firstE (f : Nat → Int) : Nat → Int
 | 0 => 0
 | n + 1 => if firstE f n = 0 then f n else firstE f n
theorem firstE_zero {f : Nat → Int} : ∀ {n : Nat}, (∀ j, j < n → f j = 0) → firstE f n = 0
 | 0, _ => rfl
 | n + 1, h => by rw [firstE, if_pos (firstE_zero fun j hj => h j (by omega)), h n (by omega)]
theorem firstE_stop {f : Nat → Int} {i : Nat} : ∀ {n : Nat}, i < n → (∀ j, j < i → f j = 0) → f i ≠ 0 → firstE f n = f i
 | 0, h, _, _ => by omega
 | n + 1, h, hj, hi => by
  by_cases e : i = n
  ·subst e; rw [firstE, if_pos (firstE_zero hj)]
  ·rw [firstE, firstE_stop (by omega) hj hi, if_neg hi]
def entE (l : List En) (i : Nat) : Int :=
 if mayE l[i]! = false then 1 else if 0 < i ∧ Op.bytesLess l[i - 1]!.key l[i]!.key = false then 150 else if hasS ((l.take i).map En.name) l[i]!.name = true then 6 else 0
def checkE (l : List En) : Int := if 1024 < l.length then 4 else firstE (entE l) l.length
def modeOf (s : Str) : Int :=
 if Lib.hasPrefix s (modeD 1) then 1 else if Lib.hasPrefix s (modeD 2) then 2 else if Lib.hasPrefix s (modeD 3) then 3 else if Lib.hasPrefix s (modeD 4) then 4
 else if Lib.hasPrefix (modeD 1) s || Lib.hasPrefix (modeD 2) s || Lib.hasPrefix (modeD 3) s || Lib.hasPrefix (modeD 4) s then -1 else 0
def oneE (s : Str) : Int × En × Str :=
 if modeOf s = -1 then (3, ⟨0, [], []⟩, []) else if modeOf s = 0 then (2, ⟨0, [], []⟩, []) else
 let r := s.drop (modeD (modeOf s)).length
 if Lib.indexByte r 0 < 0 then (3, ⟨0, [], []⟩, []) else
 let k := (Lib.indexByte r 0).toNat
 if r.length < k + 21 then (3, ⟨0, [], []⟩, []) else (0, ⟨modeOf s, r.take k, hexOf ((r.drop (k + 1)).take 20)⟩, r.drop (k + 21))
def parseA : Nat → Str → List En → Int × List En
 | 0, _, acc => (0, acc)
 | f + 1, s, acc => if s = [] then (0, acc) else if (oneE s).1 ≠ 0 then ((oneE s).1, []) else parseA f (oneE s).2.2 (acc ++ [(oneE s).2.1])
def entsA (s : Str) (acc : List En) : Int × List En := parseA s.length s acc
theorem oneE_short {s : Str} (h : (oneE s).1 = 0) : (oneE s).2.2.length < s.length := by
 simp only [oneE] at h ⊢
 split
 ·rename_i h1; rw [if_pos h1] at h; simp at h
 rename_i h1
 rw [if_neg h1] at h
 split
 ·rename_i h2; rw [if_pos h2] at h; simp at h
 rename_i h2
 rw [if_neg h2] at h
 split
 ·rename_i h3; rw [if_pos h3] at h; simp at h
 rename_i h3
 rw [if_neg h3] at h
 split
 ·rename_i h4; rw [if_pos h4] at h; simp at h
 rename_i h4
 simp only [List.length_drop] at h4 ⊢
 omega
theorem parseA_fuel : ∀ (f f' : Nat) (s : Str) (acc : List En), s.length ≤ f → s.length ≤ f' → parseA f s acc = parseA f' s acc
 | 0, 0, _, _, _, _ => rfl
 | 0, f' + 1, s, acc, h, _ => by
  have : s = [] := List.length_eq_zero_iff.1 (by omega)
  subst this; rfl
 | f + 1, 0, s, acc, _, h => by
  have : s = [] := List.length_eq_zero_iff.1 (by omega)
  subst this; rfl
 | f + 1, f' + 1, s, acc, h, h' => by
  rw [parseA, parseA]
  split
  ·rfl
  split
  ·rfl
  rename_i h0 h1
  have := oneE_short (s := s) (by simpa using h1)
  exact parseA_fuel f f' _ _ (by omega) (by omega)
theorem entsA_nil (acc : List En) : entsA [] acc = (0, acc) := rfl
theorem entsA_err {s : Str} {acc : List En} (h : s ≠ []) (h1 : (oneE s).1 ≠ 0) : entsA s acc = ((oneE s).1, []) := by
 rw [entsA]
 cases hl : s.length with
 | zero => exact absurd (List.length_eq_zero_iff.1 hl) h
 | succ f => rw [parseA, if_neg h, if_pos h1]
theorem entsA_one {s : Str} {acc : List En} (h : s ≠ []) (h1 : (oneE s).1 = 0) : entsA s acc = entsA (oneE s).2.2 (acc ++ [(oneE s).2.1]) := by
 have hs := oneE_short h1
 rw [entsA]
 cases hl : s.length with
 | zero => exact absurd (List.length_eq_zero_iff.1 hl) h
 | succ f => rw [parseA, if_neg h, if_neg (by simp [h1]), entsA]; exact parseA_fuel _ _ _ _ (by omega) (by omega)
def treeOf (s : Str) : Int × List En :=
 if (entsA s []).1 ≠ 0 then ((entsA s []).1, []) else if checkE (entsA s []).2 ≠ 0 then (checkE (entsA s []).2, []) else (0, (entsA s []).2)
end Go.Graft
