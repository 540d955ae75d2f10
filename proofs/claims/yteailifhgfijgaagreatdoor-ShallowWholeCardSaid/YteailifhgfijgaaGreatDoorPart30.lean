/- A part of the proof: GAny, GAnyB, Hk, Hm. -/
import Derived.Laws.RangeAny
import Derived.Laws.Runes
import Derived.Test.YteailifhgfijgaaGreatDoorPart29
set_option linter.unusedVariables false
set_option linter.unusedSimpArgs false
namespace Go.Proofs
open Go.Shelf Go.RowKit Go.Lib
variable {P : Program} {ρ : Ren}
set_option maxHeartbeats 8000000 in
set_option maxRecDepth 1000000 in
theorem angle_65533 (L : Lays.n152 P ρ) (w : World) :
  Calls P (ρ.f 152) #[.string ⟨#[60, 62]⟩, .int .i32 65533] w fun e w' => e = .returned (.int .i64 (-1)) ∧ ∃ pos, w' = w.iter ⟨#[60, 62]⟩ pos := by
 have t3 := L.t3; have a3 := L.a3; have z3 := L.z3; have v3 := L.v3
 have t4 := L.t4; have a4 := L.a4; have z4 := L.z4; have v4 := L.v4
 have t5 := L.t5; have a5 := L.a5; have z5 := L.z5; have v5 := L.v5
 have t9 := L.t9; have a9 := L.a9; have z9 := L.z9; have v9 := L.v9
 have t21 := L.t21; have a21 := L.a21; have z21 := L.z21; have v21 := L.v21
 generalize hs : (⟨#[60, 62]⟩ : ByteArray) = s
 have hz : s.size = 2 := by rw [← hs]; rfl
 have h128 : ∀ (i : Nat) (h : i < s.size), (s[i]'h).toNat < 63 := by
  subst hs
  intro i h
  rcases (show i = 0 ∨ i = 1 by have : i < 2 := h; omega) with rfl | rfl
  ·show (60 : UInt8).toNat < 63; decide
  ·show (62 : UInt8).toNat < 63; decide
 clear hs
 have HA : Aside (∀ (i : Nat) (h : i < s.size), (s[i]'h).toNat < 63) := h128
 clear h128
 go_enter L.f152, Body.n152_ntmps ρ
 go_wp2
 go_loopg [5, 6] s.size (fun g _ _ wx => ∃ i : Nat, i + g = s.size ∧ wx = w.iter s i)
 case atStart => exact ⟨0, by omega, rfl⟩
 case round =>
  obtain ⟨i, hig, rfl⟩ := hrel
  cases gk with
  | zero =>
   obtain rfl : i = 2 := by omega
   have hnx := fun ty => run_next_end (P := P) w s 2 ty (by omega)
   go_wp2
   go_ret
   exact ⟨rfl, _, rfl⟩
  | succ g =>
   have hi : i < s.size := by omega
   have hx := HA.out i hi
   have hnx := fun ty => run_next_ascii (P := P) w s i ty hi (by omega)
   generalize (s[i]'hi).toNat = x at hx hnx
   go_wp2
   go_roundg g
   case measure => omega
   case rel => exact ⟨i + 1, by omega, rfl⟩
set_option maxHeartbeats 8000000 in
set_option maxRecDepth 1000000 in
theorem angle_invalid (L : Lays.n152 P ρ) (r : Int) (w : World) (h0 : 128 ≤ r) (h1 : r ≠ 65533) (hv : Lib.validRune r = false) :
  Calls P (ρ.f 152) #[.string ⟨#[60, 62]⟩, .int .i32 r] w fun e w' => e = .returned (.int .i64 (-1)) ∧ w' = w := by
 have t3 := L.t3; have a3 := L.a3; have z3 := L.z3; have v3 := L.v3
 have t4 := L.t4; have a4 := L.a4; have z4 := L.z4; have v4 := L.v4
 have t5 := L.t5; have a5 := L.a5; have z5 := L.z5; have v5 := L.v5
 have t9 := L.t9; have a9 := L.a9; have z9 := L.z9; have v9 := L.v9
 have t21 := L.t21; have a21 := L.a21; have z21 := L.z21; have v21 := L.v21
 generalize hs : (⟨#[60, 62]⟩ : ByteArray) = s
 clear hs
 have e119 : ∀ args w, (callFunc (ρ.f 119) args).run P w = .ok (.enter (ρ.f 119) args) w := enters_of L.f119 (by kernel_rfl) rfl
 go_enter L.f152, Body.n152_ntmps ρ
 go_wp2_with (go_at_fn (ρ.f 119); refine (Any.utf8_ValidRune { L with } _ _).mono ?_; rintro e w' ⟨rfl, hw⟩; rw [hw, hv])
 go_ret
 exact ⟨rfl, rfl⟩
set_option maxHeartbeats 8000000 in
set_option maxRecDepth 1000000 in
theorem angle_valid (L : Lays.n152 P ρ) (r : Int) (w : World) (h0 : 128 ≤ r) (h1 : r ≠ 65533) (hv : Lib.validRune r = true) (c : ByteArray) (hc : Utf8.encode r = c) (hsz : 2 < c.size) (hsz4 : c.size ≤ 4) :
  Calls P (ρ.f 152) #[.string ⟨#[60, 62]⟩, .int .i32 r] w fun e w' => e = .returned (.int .i64 (-1)) ∧ w' = w := by
 have t3 := L.t3; have a3 := L.a3; have z3 := L.z3; have v3 := L.v3
 have t4 := L.t4; have a4 := L.a4; have z4 := L.z4; have v4 := L.v4
 have t5 := L.t5; have a5 := L.a5; have z5 := L.z5; have v5 := L.v5
 have t9 := L.t9; have a9 := L.a9; have z9 := L.z9; have v9 := L.v9
 have t21 := L.t21; have a21 := L.a21; have z21 := L.z21; have v21 := L.v21
 generalize hs : (⟨#[60, 62]⟩ : ByteArray) = s
 have hz : s.size = 2 := by rw [← hs]; rfl
 clear hs
 have e119 : ∀ args w, (callFunc (ρ.f 119) args).run P w = .ok (.enter (ρ.f 119) args) w := enters_of L.f119 (by kernel_rfl) rfl
 go_enter L.f152, Body.n152_ntmps ρ
 go_wp2_with (go_at_fn (ρ.f 119); refine (Any.utf8_ValidRune { L with } _ _).mono ?_; rintro e w' ⟨rfl, hw⟩; rw [hw, hv])
 apply wp_scope_straight
 go_wp2
 go_loopg [9] 0 (fun g u wx => u = .int .i64 (c.size - 1) ∧ wx = w)
 case atStart => exact ⟨rfl, rfl⟩
 case round =>
  obtain ⟨rfl, rfl⟩ := hrel
  go_wp2
  simp only [Exit.noGoto, Exit.inBlock]
  go_ret
  exact ⟨rfl, rfl⟩
set_option maxHeartbeats 8000000 in
set_option maxRecDepth 1000000 in
theorem angle_two (L : Lays.n152 P ρ) (r : Int) (w : World) (h0 : 128 ≤ r) (h1 : r ≠ 65533) (hv : Lib.validRune r = true) (c : ByteArray) (hc : Utf8.encode r = c) (hsz : c.size = 2) (hb : ∀ h : 1 < c.size, 128 ≤ (c[1]'h).toNat) :
  Calls P (ρ.f 152) #[.string ⟨#[60, 62]⟩, .int .i32 r] w fun e w' => e = .returned (.int .i64 (-1)) ∧ w'.os = w.os ∧ w'.tape = w.tape ∧ w'.output = w.output ∧ w'.heap = w.heap := by
 have mixed := L.mixed
 have t3 := L.t3; have a3 := L.a3; have z3 := L.z3; have v3 := L.v3
 have t4 := L.t4; have a4 := L.a4; have z4 := L.z4; have v4 := L.v4
 have t5 := L.t5; have a5 := L.a5; have z5 := L.z5; have v5 := L.v5
 have t9 := L.t9; have a9 := L.a9; have z9 := L.z9; have v9 := L.v9
 have t21 := L.t21; have a21 := L.a21; have z21 := L.z21; have v21 := L.v21
 generalize hs : (⟨#[60, 62]⟩ : ByteArray) = s
 have hz : s.size = 2 := by rw [← hs]; rfl
 have h1' : 1 < s.size := by omega
 have h2' : 1 < c.size := by omega
 have hs1 : (s[1]'h1') = 62 := by subst hs; rfl
 obtain ⟨x, hx⟩ : ∃ x, c[1]'h2' = x := ⟨_, rfl⟩
 have hx1 : 128 ≤ x.toNat := by rw [← hx]; exact hb h2'
 have hx2 : (62 == x) = false := by
  rw [beq_eq_false_iff_ne]
  intro h
  rw [← h] at hx1
  revert hx1; decide
 have hslice : s.extract 2 2 = ⟨#[]⟩ := by subst hs; rfl
 have hib : Lib.indexByte [] x = -1 := rfl
 clear hs hb
 have e119 : ∀ args w, (callFunc (ρ.f 119) args).run P w = .ok (.enter (ρ.f 119) args) w := enters_of L.f119 (by kernel_rfl) rfl
 have e137 : ∀ args w, (callFunc (ρ.f 137) args).run P w = .ok (.enter (ρ.f 137) args) w := enters_of L.f137 (by kernel_rfl) rfl
 go_enter L.f152, Body.n152_ntmps ρ
 go_wp2_with (go_at_fn (ρ.f 119); refine (Any.utf8_ValidRune { L with } _ _).mono ?_; rintro e w' ⟨rfl, hw⟩; rw [hw, hv])
 apply wp_scope_straight
 go_wp2
 go_loopg [9, 10, 11] 0 (fun g u _ _ wx => u = .int .i64 1 ∧ wx = w)
 case atStart => exact ⟨rfl, rfl⟩
 case round =>
  obtain ⟨rfl, rfl⟩ := hrel
  go_wp2
  apply wp_scope_straight
  go_wp2
  go_region_o
  go_wp2
  go_region_with_o (go_at_fn (ρ.f 137); refine (Any.strings_IndexByte { L with } _ _ _).mono ?_; rintro e w' ⟨rfl, hw⟩; rw [hw])
  all_goals
   go_wp2
   simp only [Exit.noGoto, Exit.inBlock, Exit.then]
   go_ret
   exact ⟨rfl, rfl, rfl, rfl, rfl⟩
theorem decode_span (s : ByteArray) (i : Nat) (h : i < s.size) (ha : 128 ≤ (s.get! (i + 0)).toNat) : ∀ k, k < (Utf8.decode s i).2 → i + k < s.size ∧ 128 ≤ (s.get! (i + k)).toNat := by
 have hn : ¬ (s.get! (i + 0)).toNat < 128 := by omega
 simp only [Utf8.decode, hn, if_false]
 repeat' split
 all_goals intro k hk
 all_goals rcases (show k = 0 ∨ k = 1 ∨ k = 2 ∨ k = 3 by omega) with rfl | rfl | rfl | rfl
 all_goals first | (exfalso; omega) | exact ⟨by omega, ha⟩ | (simp only [Bool.and_eq_true, decide_eq_true_eq, beq_iff_eq] at *; omega)
theorem next_at (W : World) (b : Nat) (s : ByteArray) (pos : Nat) (ty : TypeId) (hb : W.heap[b]? = some (.stringIter s pos)) (h : pos < s.size) :
  (Instr.next (.pointer (some ⟨b, 0, none⟩)) true ty).run P W = .ok (.tuple #[.bool true, .int .i64 pos, .int .i32 (Utf8.decode s pos).1]) { W with heap := W.heap.setIfInBounds b (.stringIter s (pos + (Utf8.decode s pos).2)) } := by
 simp only [Instr.next, getObj, setObj, Sem.run_bind, Sem.run, hb, Result.andThen, h, if_true]
 simp [goInt]
theorem next_end (W : World) (b : Nat) (s : ByteArray) (pos : Nat) (ty : TypeId) (hb : W.heap[b]? = some (.stringIter s pos)) (h : ¬ pos < s.size) :
  (Instr.next (.pointer (some ⟨b, 0, none⟩)) true ty).run P W = .ok (.tuple #[.bool false]) W := by
 simp [Instr.next, getObj, Sem.run, hb, h]
theorem Grown.of_heap {w w' : World} (h1 : w'.os = w.os) (h2 : w'.tape = w.tape) (h3 : w'.output = w.output) (h4 : w'.heap = w.heap) : Sym.Grown w w' :=
 ⟨h1, h2, h3, by rw [h4]; omega, fun _ _ => by rw [h4]⟩
theorem angle_wide (L : Lays.n152 P ρ) (r : Int) (w : World) (h0 : 128 ≤ r) :
  Calls P (ρ.f 152) #[.string ⟨#[60, 62]⟩, .int .i32 r] w fun e w' => e = .returned (.int .i64 (-1)) ∧ Sym.Grown w w' := by
 by_cases h1 : r = 65533
 ·subst h1
  refine (angle_65533 L w).mono ?_
  rintro e w' ⟨rfl, pos, rfl⟩
  refine ⟨rfl, rfl, rfl, rfl, ?_, fun b hb => ?_⟩
  ·show w.heap.size ≤ (w.heap.push _).size; rw [Array.size_push]; omega
  ·show (w.heap.push _)[b]? = _
   rw [Array.getElem?_push_lt hb, Array.getElem?_eq_getElem hb]
 cases hv : Lib.validRune r with
 | false =>
  refine (angle_invalid L r w h0 h1 hv).mono ?_
  rintro e w' ⟨rfl, rfl⟩
  exact ⟨rfl, .refl _⟩
 | true =>
  have hv' : Utf8.valid r = true := by
   revert hv; unfold Lib.validRune Utf8.valid; intro hv; simp at hv ⊢; omega
  obtain ⟨h2, h4, hl⟩ := encode_facts r hv' h0
  by_cases h3 : (Utf8.encode r).size = 2
  ·refine (angle_two L r w h0 h1 hv _ rfl h3 ?_).mono ?_
   ·intro h
    have := hl (by omega)
    simpa [h3] using this
   ·rintro e w' ⟨rfl, a, b, c, d⟩
    exact ⟨rfl, Grown.of_heap a b c d⟩
  ·refine (angle_valid L r w h0 h1 hv _ rfl (by omega) h4).mono ?_
   rintro e w' ⟨rfl, rfl⟩
   exact ⟨rfl, .refl _⟩
end Go.Proofs
namespace Go.Proofs
open Go.Shelf Go.RowKit Go.Lib
variable {P : Program} {ρ : Ren}
structure Over (w : World) (s : ByteArray) (i : Nat) (W : World) : Prop where
 le : i ≤ s.size
 old : Sym.Grown w W
 at_ : W.heap[w.heap.size]? = some (.stringIter s i)
 no : Lib.NoAny s.data.toList [60, 62] i
theorem Over.grown {w : World} {s : ByteArray} {i : Nat} {W W' : World} (h : Over w s i W) (g : Sym.Grown W W') : Over w s i W' :=
 ⟨h.le, h.old.trans g, by
  rw [g.old _ ?_]; exact h.at_
  have := h.at_
  exact (Array.getElem?_eq_some_iff.1 this).1, h.no⟩
theorem Over.step {w : World} {s : ByteArray} {i j : Nat} {W : World} (h : Over w s i W) (hj : j ≤ s.size) (hn : Lib.NoAny s.data.toList [60, 62] j) :
  Over w s j { W with heap := W.heap.setIfInBounds w.heap.size (.stringIter s j) } := by
 have hb := (Array.getElem?_eq_some_iff.1 h.at_).1
 refine ⟨hj, ⟨h.old.os, h.old.tape, h.old.output, ?_, fun b hb => ?_⟩, ?_, hn⟩
 ·show _ ≤ (W.heap.setIfInBounds _ _).size; rw [Array.size_setIfInBounds]; exact h.old.size
 ·show (W.heap.setIfInBounds _ _)[b]? = _
  rw [Array.getElem?_setIfInBounds_ne (by omega)]
  exact h.old.old b hb
 ·show (W.heap.setIfInBounds _ _)[_]? = _
  rw [Array.getElem?_setIfInBounds_self_of_lt hb]
theorem Over.set {w : World} {s : ByteArray} {i : Nat} {W : World} (h : Over w s i W) (o : Obj) :
  Sym.Grown w { W with heap := W.heap.setIfInBounds w.heap.size o } := by
 refine ⟨h.old.os, h.old.tape, h.old.output, ?_, fun b hb => ?_⟩
 ·show _ ≤ (W.heap.setIfInBounds _ _).size; rw [Array.size_setIfInBounds]; exact h.old.size
 ·show (W.heap.setIfInBounds _ _)[b]? = _
  rw [Array.getElem?_setIfInBounds_ne (by omega)]
  exact h.old.old b hb
theorem Over.start (w : World) (s : ByteArray) : Over w s 0 (w.iter s 0) := by
 refine ⟨by omega, ⟨rfl, rfl, rfl, ?_, fun b hb => ?_⟩, World.iter_heap w s 0, Lib.NoAny.zero _ _⟩
 ·show w.heap.size ≤ (w.heap.push _).size; rw [Array.size_push]; omega
 ·show (w.heap.push _)[b]? = _
  rw [Array.getElem?_push_lt hb, Array.getElem?_eq_getElem hb]
theorem Over.wide {s : ByteArray} {i : Nat} (hn : Lib.NoAny s.data.toList [60, 62] i) (h : i < s.size) (ha : 128 ≤ (s[i]'h).toNat) :
  i + (Utf8.decode s i).2 ≤ s.size ∧ Lib.NoAny s.data.toList [60, 62] (i + (Utf8.decode s i).2) := by
 have hsp := decode_span s i h (by rw [get_at s i h]; exact ha)
 have h1 := (decode_high s i h ha).2
 refine ⟨by have := (hsp ((Utf8.decode s i).2 - 1) (by omega)).1; omega, fun j b hj hb => ?_⟩
 by_cases hji : j < i
 ·exact hn j b hji hb
 obtain ⟨g1, g2⟩ := hsp (j - i) (by omega)
 rw [show i + (j - i) = j by omega] at g1 g2
 have e := Lib.data_getElem? s j g1
 have e2 : s.get! j = s[j]'g1 := by
  have := get_at s j g1; simpa using this
 rw [hb] at e
 have e : b = s[j]'g1 := by injection e
 rw [e2, ← e] at g2
 rw [Bool.eq_false_iff]
 intro hc
 rw [List.contains_iff_mem] at hc
 rcases (by simpa using hc : b = 60 ∨ b = 62) with rfl | rfl <;> revert g2 <;> decide
set_option maxHeartbeats 8000000 in
set_option maxRecDepth 1000000 in
theorem anyShort (L : Lays.n153 P ρ) (s : ByteArray) (w : World) (h8 : s.size ≤ 8) :
  Calls P (ρ.f 153) #[.string s, .string ⟨#[60, 62]⟩] w fun e w' => e = .returned (.int .i64 (Lib.indexAny s.data.toList [60, 62])) ∧ Sym.Grown w w' := by
 have hch : (⟨#[60, 62]⟩ : ByteArray).data.toList = [60, 62] := rfl
 have hcz : (⟨#[60, 62]⟩ : ByteArray).size = 2 := rfl
 have hce : (⟨#[60, 62]⟩ : ByteArray).toList.isEmpty = false := by rw [Lib.toList_data]; rfl
 have hwide := fun r w => angle_wide (P := P) (ρ := ρ) { L with } r w
 generalize (⟨#[60, 62]⟩ : ByteArray) = chars at *
 have h8z : decide ((8 : Int) < (s.size : Int)) = false := decide_eq_false (by omega)
 have t3 := L.t3; have a3 := L.a3; have z3 := L.z3; have v3 := L.v3
 have t4 := L.t4; have a4 := L.a4; have z4 := L.z4; have v4 := L.v4
 have t5 := L.t5; have a5 := L.a5; have z5 := L.z5; have v5 := L.v5
 have t9 := L.t9; have a9 := L.a9; have z9 := L.z9; have v9 := L.v9
 have t21 := L.t21; have a21 := L.a21; have z21 := L.z21; have v21 := L.v21
 have e152 : ∀ args w, (callFunc (ρ.f 152) args).run P w = .ok (.enter (ρ.f 152) args) w := enters_of L.f152 (by kernel_rfl) rfl
 have e226 : ∀ args w, (callFunc (ρ.f 226) args).run P w = .ok (.enter (ρ.f 226) args) w := enters_of L.f226 (by kernel_rfl) rfl
 have HW : Aside (∀ r w, 128 ≤ r → Calls P (ρ.f 152) #[.string chars, .int .i32 r] w fun e w' => e = .returned (.int .i64 (-1)) ∧ Sym.Grown w w') := hwide
 clear hwide
 have HC : Aside (chars.data.toList = [60, 62]) := hch
 clear hch
 go_enter L.f153, Body.n153_ntmps ρ
 go_wp2_with (go_at_fn (ρ.f 226); refine (Any.strings_shouldUseASCIISet { L with } _ _).mono ?_; rintro e w' ⟨rfl, hw⟩; rw [hw, h8z])
 go_loopg [9, 10] s.size (fun g _ _ wx => ∃ i : Nat, s.size ≤ i + g ∧ Over w s i wx)
 case atStart => exact ⟨0, by omega, Over.start w s⟩
 case round =>
  obtain ⟨i, hig, ho⟩ := hrel
  have HO : Aside (Over w s i wr) := ho
  by_cases hi : i < s.size
  ·by_cases h128 : (s[i]'hi).toNat < 128
   ·obtain ⟨x, hx⟩ : ∃ x : UInt8, s[i]'hi = x := ⟨_, rfl⟩
    have hxl : s.data.toList[i]? = some x := by rw [← hx]; exact Lib.data_getElem? s i hi
    have hnx := fun ty => next_at (P := P) wr w.heap.size s i ty ho.at_ hi
    rw [decode_ascii s i hi h128] at hnx
    dsimp only at hnx
    rw [hx] at hnx h128
    have Hx : Aside (s.data.toList[i]? = some x) := hxl
    clear hxl hx
    clear ho
    have hcon := Lib.contains_iff_indexByte [60, 62] x
    have hback : ((x.toNat : Int)).toNat.toUInt8 = x := by simp
    cases hin : ([60, 62] : List UInt8).contains x
    ·have HI : Aside (([60, 62] : List UInt8).contains x = false) := hin
     rw [hin] at hcon
     have hlt : ¬ ((0 : Int) ≤ Lib.indexByte [60, 62] x) := of_decide_eq_false hcon.symm
     clear hcon hin
     go_wp2_with (go_at_fn (ρ.f 152); refine (Any.strings_IndexRune_ascii { L with } _ _ _ (by omega) (by omega)).mono ?_; rintro e w' ⟨rfl, hw⟩; rw [hw, hback, HC.out])
     go_roundg (s.size - i - 1)
     case measure => omega
     case rel => exact ⟨i + 1, by omega, HO.out.step (by omega) (HO.out.no.succ Hx.out HI.out)⟩
    ·have HI : Aside (([60, 62] : List UInt8).contains x = true) := hin
     rw [hin] at hcon
     have hge : (0 : Int) ≤ Lib.indexByte [60, 62] x := of_decide_eq_true hcon.symm
     clear hcon hin
     go_wp2_with (go_at_fn (ρ.f 152); refine (Any.strings_IndexRune_ascii { L with } _ _ _ (by omega) (by omega)).mono ?_; rintro e w' ⟨rfl, hw⟩; rw [hw, hback, HC.out])
     go_ret
     exact ⟨by rw [Lib.indexAny_hit HO.out.no Hx.out HI.out]; rfl, HO.out.set _⟩
   ·have hd := (decode_high s i hi (by omega)).1
    have hd1 := (decode_high s i hi (by omega)).2
    have hw2 := Over.wide ho.no hi (by omega)
    have hnx := fun ty => next_at (P := P) wr w.heap.size s i ty ho.at_ hi
    generalize (Utf8.decode s i) = q at *
    obtain ⟨r, k⟩ := q
    dsimp only at *
    have HN : Aside (Lib.NoAny s.data.toList [60, 62] (i + k)) := hw2.2
    have hik := hw2.1
    clear hw2 ho h128
    go_wp2_with (go_at_fn (ρ.f 152); refine (HW.out _ _ (by omega)).mono ?_; rintro e w' ⟨rfl, hw⟩)
    go_roundg (s.size - i - k)
    case measure => omega
    case rel => exact ⟨i + k, by omega, (HO.out.step hik HN.out).grown (by assumption)⟩
  ·have hnx := fun ty => next_end (P := P) wr w.heap.size s i ty ho.at_ hi
   clear ho
   go_wp2
   go_ret
   exact ⟨by rw [Lib.indexAny_none (by rw [← Lib.size_eq]; have := HO.out.le; have := HO.out.no; rwa [show i = s.size by omega] at this)]; rfl, HO.out.old⟩
theorem Grown.below {w w' : World} (h : Below w.heap.size w w') : Sym.Grown w w' := ⟨h.os, h.tape, h.output, h.size, h.block⟩
theorem anyAngle (L : Lays.n153 P ρ) (h116 : (P.info? (ρ.t 116)).map (fun i => (i.zero, i.size)) = some (some (.agg (Array.replicate 256 (.bool false))), 256)) (s : ByteArray) (w : World) (hs : s.size < 4294967281) :
  Calls P (ρ.f 153) #[.string s, .string ⟨#[60, 62]⟩] w fun e w' => e = .returned (.int .i64 (Lib.indexAny s.data.toList [60, 62])) ∧ Sym.Grown w w' := by
 by_cases h8 : s.size ≤ 8
 ·exact anyShort L s w h8
 ·refine (Any.strings_IndexAny_long L (zero_of_info h116).1 (zero_of_info h116).2 s ⟨#[60, 62]⟩ w (by show 2 ≤ 2; omega) (by omega) hs (by show 2 < 4294967281; omega) ?_).mono ?_
  ·intro j b h
   have h : ([60, 62] : List UInt8)[j]? = some b := h
   have hm := List.mem_of_getElem? h
   rcases (by simpa using hm : b = 60 ∨ b = 62) with rfl | rfl <;> decide
  ·rintro e w' ⟨rfl, h2⟩
   refine ⟨rfl, ?_⟩
   rw [h2]
   exact Grown.below (((Below.refl _ _).alloc (Nat.le_refl _) _).alloc (by simp) _)
set_option maxHeartbeats 1000000 in
theorem containsAngle (L : Lays.n150 P ρ) (h116 : (P.info? (ρ.t 116)).map (fun i => (i.zero, i.size)) = some (some (.agg (Array.replicate 256 (.bool false))), 256)) (s : ByteArray) (w : World) (hs : s.size < 4294967281) :
  Calls P (ρ.f 150) #[.string s, .string ⟨#[60, 62]⟩] w fun e w' => e = .returned (.bool (Lib.containsAny s.data.toList [60, 62])) ∧ Sym.Grown w w' := by
 have c := anyAngle { L with } h116 s w hs
 generalize (⟨#[60, 62]⟩ : ByteArray) = chars at *
 have t3 := L.t3; have a3 := L.a3; have z3 := L.z3; have v3 := L.v3
 have t4 := L.t4; have a4 := L.a4; have z4 := L.z4; have v4 := L.v4
 have t9 := L.t9; have a9 := L.a9; have z9 := L.z9; have v9 := L.v9
 have e153 : ∀ args w, (callFunc (ρ.f 153) args).run P w = .ok (.enter (ρ.f 153) args) w := enters_of L.f153 (by kernel_rfl) rfl
 go_enter L.f150, Body.n150_ntmps ρ
 go_wp2_with (go_at_fn (ρ.f 153); refine c.mono ?_; rintro e w' ⟨rfl, hw⟩)
 go_ret
 exact ⟨rfl, hw⟩
end Go.Proofs
namespace Go.Proofs.Tryz
open Go Go.Sym Go.Graft
set_option maxRecDepth 20000
theorem sContainsAny (s : Str) (hs : s.length < 4294967281) : Ctr prog 181 [sV s, sV [60, 62]] [] (bV (angled s)) [] [] :=
 Ctr.of_calls (xs := [.string ⟨⟨s⟩⟩, .string ⟨⟨[60, 62]⟩⟩]) ⟨_, func181, rfl, rfl⟩ rfl (fun _ _ _ => .v _ _) fun w _ => by
  rw [← angled_any]
  exact Proofs.containsAngle Tryz.lays150 (by kernel_rfl) ⟨⟨s⟩⟩ w hs
theorem cut_len (s t : Str) : (Lib.cut s t).1.length ≤ s.length ∧ (Lib.cut s t).2.1.length ≤ s.length := by
 rw [Lib.cut]
 split
 ·simp only [List.length_take, List.length_drop]; omega
 ·simp
theorem cParseWho (s : Str) (hs : s.length ≤ 1000000000) : Ctr prog 147 [sV s] [] (.tup [(whoOf s).2.pv, iV (whoOf s).1]) [] [] := by
 have c1 := sCut s [32, 60] (by omega)
 have l1 := cut_len s [32, 60]
 have hw := whoOf_def s
 generalize whoOf s = w at *
 generalize Lib.cut s [32, 60] = q1 at *
 obtain ⟨name, r1, a⟩ := q1
 dsimp only at *
 have c2 := sCut r1 [62, 32] (by omega)
 have l2 := cut_len r1 [62, 32]
 generalize Lib.cut r1 [62, 32] = q2 at *
 obtain ⟨mail, r2, b⟩ := q2
 dsimp only at *
 have c3 := sCut r2 [32] (by omega)
 have l3 := cut_len r2 [32]
 generalize Lib.cut r2 [32] = q3 at *
 obtain ⟨tm, zn, c⟩ := q3
 dsimp only at *
 have c4 := cDigits tm (by omega)
 have c5 := cZone zn (by omega)
 have c6 := sContainsAny (name ++ mail) (by rw [List.length_append]; omega)
 have hv : numOk tm = true → (if numOk tm = true then ((valD tm : Nat) : Int) else 0) = ((valD tm : Nat) : Int) := fun h => if_pos h
 generalize (if numOk tm = true then ((valD tm : Nat) : Int) else 0) = v at *
 generalize numOk tm = d at *
 generalize hvv : ((valD tm : Nat) : Int) = v2 at *
 generalize zonOk zn = e at *
 generalize zonV zn = z at *
 generalize angled (name ++ mail) = g at *
 refine Ctr.enter tblOk func147 rfl (by decide) rfl (nt := 80) rfl rfl rfl rfl ?_
 refine Trip.sr tblOk ?_
 refine Trip.sR tblOk (by repeat' (first | exact rfl | (apply Rule.sem; intro hγ; with_reducible apply F_call0 (x := .func 93) (B := []) hγ (hspec := c1)) | ((with_reducible refine Side.mk ?_); exact .inl rfl) | constructor)) ?_
 refine Trip.sR tblOk (by repeat' (first | exact rfl | (apply Rule.sem; intro hγ; with_reducible apply F_call0 (x := .func 93) (B := []) hγ (hspec := c2)) | ((with_reducible refine Side.mk ?_); exact .inl rfl) | constructor)) ?_
 refine Trip.sR tblOk (by repeat' (first | exact rfl | (apply Rule.sem; intro hγ; with_reducible apply F_call0 (x := .func 93) (B := []) hγ (hspec := c3)) | ((with_reducible refine Side.mk ?_); exact .inl rfl) | constructor)) ?_
 refine Trip.sR tblOk (by repeat' (first | exact rfl | (apply Rule.sem; intro hγ; with_reducible apply F_call0 (x := .func 179) (B := []) hγ (hspec := c4)) | ((with_reducible refine Side.mk ?_); exact .inl rfl) | constructor)) ?_
 refine Trip.sR tblOk (by repeat' (first | exact rfl | (apply Rule.sem; intro hγ; with_reducible apply F_call0 (x := .func 180) (B := []) hγ (hspec := c5)) | ((with_reducible refine Side.mk ?_); exact .inl rfl) | constructor)) ?_
 refine Trip.seq (Trip.sR tblOk (by repeat' (first | exact rfl | (apply Rule.sem; intro hγ; with_reducible apply F_call0 (x := .func 181) (B := []) hγ (hspec := c6)) | ((with_reducible refine Side.mk ?_); first | omega | exact .inl rfl | exact fun h => h | exact fun _ h => congrArg Bool.not h) | constructor)) ?_)
 apply Trip.cond (.tmp rfl)
 ·intro h
  have h : (!a || !b || !c || !d || !e || g) = true := h
  have h : (a && b && c && d && e && !g) = false := by revert h; cases a <;> cases b <;> cases c <;> cases d <;> cases e <;> cases g <;> simp
  rw [if_pos h] at hw
  subst hw
  refine Trip.sr tblOk ?_
  refine Trip.ret (rt2 [])
 intro h
 have h : (!a || !b || !c || !d || !e || g) = false := h
 have hd : d = true := by revert h; cases a <;> cases b <;> cases c <;> cases d <;> cases e <;> cases g <;> simp
 have h : ¬ (a && b && c && d && e && !g) = false := by revert h; cases a <;> cases b <;> cases c <;> cases d <;> cases e <;> cases g <;> simp
 rw [if_neg h] at hw
 have hv := hv hd
 subst hv
 have c7 := cSomebody name mail v z (by omega) (by omega)
 generalize hpo : perOk name mail v z = po at *
 refine Trip.skip (Trip.sr tblOk ?_)
 refine Trip.seq (Trip.sR tblOk (by repeat' (first | exact rfl | (apply Rule.sem; intro hγ; with_reducible apply F_call0 (x := .func 149) (B := []) hγ (hspec := c7)) | ((with_reducible refine Side.mk ?_); exact .inl rfl) | constructor)) ?_)
 apply Trip.cond (.tmp rfl)
 ·intro h2
  have h2 : po = false := by simpa using h2
  rw [if_pos h2] at hw
  subst hw
  refine Trip.sr tblOk ?_
  refine Trip.ret (rt2 [])
 intro h2
 have h2 : po = true := by simpa using h2
 rw [if_neg (by rw [h2]; simp)] at hw
 subst hw
 refine Trip.skip (Trip.sr tblOk ?_)
 refine Trip.ret (rt2 [])
end Go.Proofs.Tryz
namespace Go.Proofs.Tryz
open Go Go.Sym Go.Graft
set_option maxRecDepth 20000
theorem cFail (s : Str) (e x : Int) : Ctr prog 100 [.ref PN 0, iV x] [.box [sV s, iV e]] (.tup []) [.box [sV s, iV (failE e x)]] [] := by
 refine Ctr.enter tblOk func100 rfl (by decide) rfl (nt := 17) rfl rfl rfl rfl ?_
 refine Trip.sR tblOk (by repeat' (first | exact rfl | (apply Rule.sem; intro hγ; with_reducible apply F_nilCheck hγ) | ((with_reducible refine Side.mk ?_); first | exact fun h => h | exact fun _ h => congrArg Bool.not h) | constructor)) ?_
 apply Trip.cond (.tmp rfl)
 ·intro h
  have h : e = 0 ∨ x = 2 := by simpa using h
  rw [failE, if_pos h]
  refine Trip.R tblOk (by repeat' (first | exact rfl | (apply Rule.sem; intro hγ; with_reducible apply F_nilCheck hγ) | constructor)) ?_
  apply Ret0
  ·repeat' constructor
  ·repeat' (first | exact rfl | constructor)
  ·repeat' (first | exact convL_plain rfl | constructor)
 intro h
 have h : ¬ (e = 0 ∨ x = 2) := by simpa using h
 rw [failE, if_neg h]
 refine Trip.skip ?_
 apply Ret0
 ·repeat' constructor
 ·repeat' (first | exact rfl | constructor)
 ·repeat' (first | exact convL_plain rfl | constructor)
theorem cLine (s w : Str) (e : Int) (hs : s.length ≤ 1000000000) : Ctr prog 99 [.ref PN 0, sV w] [.box [sV s, iV e]] (sV (lineV s w)) [.box [sV (lineR s w), iV (lnE s w e)]] [] := by
 have c1 := sCut s [10] (by omega)
 have c2 := sCutPrefix (Lib.cut s [10]).1 w
 have c3 := cFail s e 2
 have hok : lineOk s w = ((Lib.cut s [10]).2.2 && Lib.hasPrefix (Lib.cut s [10]).1 w) := rfl
 rw [lineV, lineR, lnE]
 generalize lineOk s w = ok at *
 generalize Lib.cut s [10] = q at *
 obtain ⟨l, rest, is⟩ := q
 dsimp only at *
 generalize Lib.hasPrefix l w = has at *
 generalize Lib.trimPrefix l w = v at *
 generalize failE e 2 = e2 at *
 refine Ctr.enter tblOk func99 rfl (by decide) rfl (nt := 38) rfl rfl rfl rfl ?_
 refine Trip.sr tblOk ?_
 refine Trip.sR tblOk (by repeat' (first | exact rfl | (apply Rule.sem; intro hγ; with_reducible apply F_nilCheck hγ) | (apply Rule.sem; intro hγ; with_reducible apply F_call0 (x := .func 93) (B := []) hγ (hspec := c1)) | ((with_reducible refine Side.mk ?_); exact .inl rfl) | constructor)) ?_
 refine Trip.sR tblOk (by repeat' (first | exact rfl | (apply Rule.sem; intro hγ; with_reducible apply F_call0 (x := .func 140) (B := []) hγ (hspec := c2)) | ((with_reducible refine Side.mk ?_); exact .inl rfl) | constructor)) ?_
 refine Trip.seq (Trip.sR tblOk (by repeat' (first | exact rfl | ((with_reducible refine Side.mk ?_); first | exact fun h => h | exact fun _ h => congrArg Bool.not h) | constructor)) ?_)
 apply Trip.cond (.tmp rfl)
 ·intro h
  have h : (!is || !has) = true := h
  have h : ok = false := by rw [hok]; revert h; cases is <;> cases has <;> simp
  subst h
  rw [if_neg (by simp), if_neg (by simp), if_neg (by simp)]
  refine Trip.sR tblOk (by repeat' (first | exact rfl | (apply Rule.sem; intro hγ; with_reducible apply F_call (x := .func 100) (σ := [PN]) (B := []) (news := []) hγ (hspec := c3)) | ((with_reducible refine Side.mk ?_); exact .inl rfl) | constructor)) ?_
  refine Trip.sr tblOk ?_
  refine Trip.ret ?_
  apply Ret1o
  ·repeat' (first | exact rfl | constructor)
  ·repeat' (first | exact rfl | constructor)
  ·repeat' (first | exact convL_plain rfl | constructor)
  ·repeat' constructor
 intro h
 have h : (!is || !has) = false := h
 have h : ok = true := by rw [hok]; revert h; cases is <;> cases has <;> simp
 subst h
 rw [if_pos rfl, if_pos rfl, if_pos rfl]
 refine Trip.skip (Trip.sR tblOk (by repeat' (first | exact rfl | (apply Rule.sem; intro hγ; with_reducible apply F_nilCheck hγ) | constructor)) ?_)
 refine Trip.sr tblOk ?_
 refine Trip.ret ?_
 apply Ret1o
 ·repeat' (first | exact rfl | constructor)
 ·repeat' (first | exact rfl | constructor)
 ·repeat' (first | exact convL_plain rfl | constructor)
 ·repeat' constructor
theorem cIdR (s w : Str) (e : Int) (hs : s.length ≤ 1000000000) : Ctr prog 96 [.ref PN 0, sV w] [.box [sV s, iV e]] (sV (lineV s w)) [.box [sV (lineR s w), iV (rdId s e w)]] [] := by
 have c1 := cLine s w e hs
 have c2 := cIs (lineV s w) (by have := lineV_le s w; omega)
 have c3 := cFail (lineR s w) (lnE s w e) 2
 rw [rdId, idE]
 generalize lineV s w = v at *
 generalize lineR s w = r at *
 generalize lnE s w e = e1 at *
 generalize failE e1 2 = e2 at *
 generalize isId v = b at *
 refine Ctr.enter tblOk func96 rfl (by decide) rfl (nt := 15) rfl rfl rfl rfl ?_
 refine Trip.sr tblOk ?_
 refine Trip.sR tblOk (by repeat' (first | exact rfl | (apply Rule.sem; intro hγ; with_reducible apply F_call (x := .func 99) (σ := [PN]) (B := []) (news := []) hγ (hspec := c1)) | ((with_reducible refine Side.mk ?_); exact .inl rfl) | constructor)) ?_
 refine Trip.seq (Trip.sR tblOk (by repeat' (first | exact rfl | (apply Rule.sem; intro hγ; with_reducible apply F_call0 (x := .func 145) (B := []) hγ (hspec := c2)) | ((with_reducible refine Side.mk ?_); exact .inl rfl) | constructor)) ?_)
 apply Trip.cond (.tmp rfl)
 ·intro h
  have h : b = false := by simpa using h
  subst h
  rw [if_neg (by simp)]
  refine Trip.R tblOk (by repeat' (first | exact rfl | (apply Rule.sem; intro hγ; with_reducible apply F_call (x := .func 100) (σ := [PN]) (B := []) (news := []) hγ (hspec := c3)) | ((with_reducible refine Side.mk ?_); exact .inl rfl) | constructor)) ?_
  refine Trip.sr tblOk ?_
  refine Trip.ret ?_
  apply Ret1o
  ·repeat' (first | exact rfl | constructor)
  ·repeat' (first | exact rfl | constructor)
  ·repeat' (first | exact convL_plain rfl | constructor)
  ·repeat' constructor
 ·intro h
  have h : b = true := by simpa using h
  subst h
  rw [if_pos rfl]
  refine Trip.skip (Trip.sr tblOk ?_)
  refine Trip.ret ?_
  apply Ret1o
  ·repeat' (first | exact rfl | constructor)
  ·repeat' (first | exact rfl | constructor)
  ·repeat' (first | exact convL_plain rfl | constructor)
  ·repeat' constructor
theorem cWhoR (s w : Str) (e : Int) (hs : s.length ≤ 1000000000) : Ctr prog 98 [.ref PN 0, sV w] [.box [sV s, iV e]] (whoOf (lineV s w)).2.pv [.box [sV (lineR s w), iV (rdWho s e w)]] [] := by
 have c1 := cLine s w e hs
 have c2 := cParseWho (lineV s w) (by have := lineV_le s w; omega)
 have c3 := cFail (lineR s w) (lnE s w e) (whoOf (lineV s w)).1
 rw [rdWho]
 generalize whoOf (lineV s w) = q at *
 obtain ⟨er, p⟩ := q
 dsimp only at *
 generalize lineV s w = v at *
 generalize lineR s w = r at *
 generalize lnE s w e = e1 at *
 generalize failE e1 er = e2 at *
 refine Ctr.enter tblOk func98 rfl (by decide) rfl (nt := 20) rfl rfl rfl rfl ?_
 refine Trip.sr tblOk ?_
 refine Trip.sR tblOk (by repeat' (first | exact rfl | (apply Rule.sem; intro hγ; with_reducible apply F_call (x := .func 99) (σ := [PN]) (B := []) (news := []) hγ (hspec := c1)) | (apply Rule.sem; intro hγ; with_reducible apply F_call0 (x := .func 147) (B := []) hγ (hspec := c2)) | ((with_reducible refine Side.mk ?_); exact .inl rfl) | constructor)) ?_
 refine Trip.seq (Trip.sr tblOk ?_)
 apply Trip.cond (.tmp rfl)
 ·intro h
  have h : er ≠ 0 := by simpa using h
  rw [if_neg h]
  refine Trip.R tblOk (by repeat' (first | exact rfl | (apply Rule.sem; intro hγ; with_reducible apply F_call (x := .func 100) (σ := [PN]) (B := []) (news := []) hγ (hspec := c3)) | ((with_reducible refine Side.mk ?_); exact .inl rfl) | constructor)) ?_
  refine Trip.sr tblOk ?_
  refine Trip.ret ?_
  apply Ret1o
  ·repeat' (first | exact rfl | constructor)
  ·repeat' (first | exact rfl | constructor)
  ·repeat' (first | exact convL_plain rfl | constructor)
  ·repeat' (first | exact convL_plain rfl | constructor)
 ·intro h
  have h : er = 0 := by simpa using h
  rw [if_pos h]
  refine Trip.skip (Trip.sr tblOk ?_)
  refine Trip.ret ?_
  apply Ret1o
  ·repeat' (first | exact rfl | constructor)
  ·repeat' (first | exact rfl | constructor)
  ·repeat' (first | exact convL_plain rfl | constructor)
  ·repeat' (first | exact convL_plain rfl | constructor)
end Go.Proofs.Tryz
