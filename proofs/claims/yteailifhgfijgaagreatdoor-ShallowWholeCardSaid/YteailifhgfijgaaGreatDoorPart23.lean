/- A part of the proof: SymZL, GTbl, Ga, Gb, Gc. -/
import Derived.Maps.Own
import Derived.Sort.KeysCollected
import Derived.RangeFuncGives
import Derived.Test.YteailifhgfijgaaGreatDoorPart22
import Derived.Test.YteailifhgfijgaaGreatDoorProg
set_option linter.unusedVariables false
set_option linter.unusedSimpArgs false
namespace Go.Sym
open Go.RowKit Go.Maps Go.Sort
theorem Ctr.of_grown {P : Program} [Globs P] {f : FuncId} {ps : List PV} {r : PV} (hc : callable P f)
  (h : ∀ (w : World) (F : Nat → Prop) (vals : List Value), Globals P w → RepL w F noL ps vals → Calls P f vals.toArray w fun e w' => ∃ y, e = .returned y ∧ Grown w w' ∧ ∀ L, (∀ b, w.heap.size ≤ b → ¬ F b) → Rep w' F L r y) : Ctr P f ps [] r [] [] := by
 refine ⟨hc, fun fr w vals h0 hG hM hv => ?_⟩
 have hno : ∀ n l, fr.L0 n = some l → False := fun n l hn => by
  obtain ⟨ob, hob⟩ := hM.dom n l hn
  simp [named, St.obj, look] at hob
 have hL0 : fr.L0 = noL := funext fun n => by
  cases h : fr.L0 n with
  | none => rfl
  | some l => exact (hno n l h).elim
 have hv2 : RepL w (fr.F fr.L0) noL ps vals := hL0 ▸ hv
 refine (h w (fr.F fr.L0) vals (fun x hx => hM.frame.glob x (hG ▸ hx)) hv2).mono ?_
 rintro e w' ⟨y, rfl, hg, hr⟩
 refine ⟨y, fr.L0, rfl, rfl, ⟨fun n ob hn => ?_, fun n l hn => (hno n l hn).elim, fun n n' l l' b hn => (hno n l hn).elim, fun n l b hn => (hno n l hn).elim, fun n l p hn => (hno n l hn).elim, hM.parLt, hM.xLt, ?_, hM.lext⟩, hr _ fun b hb hF => ?_⟩
 ·simp [named, St.obj, look] at hn
 ·exact hM.frame.grow hM.parLt.1 hg.os hg.tape hg.output hg.size hg.old
 ·rcases hF with hF | ⟨o, l, h1, h2⟩
  ·have := hM.xLt b hF; rw [h0] at this; omega
  ·exact hno o l h1
theorem Ctr.keys {P : Program} [Globs P] {f g : FuncId} {t : TypeId} (hc : callable P f)
  (h : ∀ (mb : Option Nat) (w : World), Calls P f #[.map mb] w fun e w' => e = .returned (.func (.func g) #[] #[.pointer (some ⟨w.heap.size, 0, none⟩)]) ∧ w' = w.alloc (.cells #[.map mb] t)) (ks : List Value) (vs : List PV) : Ctr P f [.mp false ks vs] [] (.it g ks) [] [] := by
 refine Ctr.of_grown hc fun w F vals _ hv => ?_
 cases hv with
 | cons hv1 hv2 =>
 cases hv2
 cases hv1 with
 | @mp _ _ _ b clock es h1 h2 h3 h4 h5 =>
 have hbl : b < w.heap.size := by
  rcases Nat.lt_or_ge b w.heap.size with h' | h'
  ·exact h'
  ·rw [Array.getElem?_eq_none (by omega)] at h1; simp at h1
 refine (h (some b) w).mono ?_
 rintro e w' ⟨rfl, rfl⟩
 have hnew := heap_alloc_new w (.cells #[.map (some b)] t)
 refine ⟨_, rfl, ⟨rfl, rfl, rfl, by simp, fun k hk => Below.heap_alloc _ _ _ hk⟩, fun L hF => .it ?_ (hF _ (Nat.le_refl _)) ((Below.heap_alloc _ _ b hbl).trans h1) h2 h3 h5⟩
 unfold World.cell?
 rw [hnew]
 rfl
theorem Ctr.sorted {P : Program} [Globs P] {f g : FuncId} {et : TypeId} (hc : callable P f) (hk : P.underlying et = some .string) (ks : List (List UInt8)) (hnd : ks.Nodup) (hlen : ks.length ≤ 1000000000) (hks : ∀ x ∈ ks, x.length ≤ maxLen)
  (h : ∀ (c b nn : Nat) (D0 : DataW Unit) (w : World), w.cell? ⟨c, 0, none⟩ = some (.map (some b)) → c < w.heap.size → w.ownsMap P et (fun _ => some (.lit (.bool true), [])) b nn D0 → Maps.size D0 ≤ 1000000000 →
   Calls P f #[.func (.func g) #[] #[.pointer (some ⟨c, 0, none⟩)]] w fun e w' => ∃ (v : Value) (ss : List (List UInt8)), e = .returned v ∧ ss.Perm (strKeys D0) ∧ w'.ownsRow w.heap.size et 1 v ss.length ((ss.mergeSort (fun x y => decide (x ≤ y))).map Go.Proofs.encStr) ∧ (v = .slice none 0 0 ↔ ss = []) ∧ Below w.heap.size w w') :
  Ctr P f [.it g (ks.map fun s => .string ⟨⟨s⟩⟩)] [] (.sl ks.isEmpty 1 ((ks.mergeSort fun x y => decide (x ≤ y)).map fun s => sV s)) [] [] := by
 refine Ctr.of_grown hc fun w F vals _ hv => ?_
 cases hv with
 | cons hv1 hv2 =>
 cases hv2
 cases hv1 with
 | @it _ _ _ c b clock es h1 h2 h3 h4 h5 h6 =>
 have hcl : c < w.heap.size := World.block_lt_of_cell? w _ h1
 have hsz : es.size = ks.length := by
  have := congrArg List.length h5
  simpa using this
 have hmx : (1000000000 : Nat) ≤ maxLen := by decide
 let bs : Value → List UInt8 := fun | .string s => s.data.toList | _ => []
 have hkey : ∀ x ∈ es.toList, ∃ s ∈ ks, x.key = .string ⟨⟨s⟩⟩ := fun x hx => by
  have : x.key ∈ ks.map fun s => Value.string ⟨⟨s⟩⟩ := h5 ▸ List.mem_map.2 ⟨x, hx, rfl⟩
  obtain ⟨s, hs, e⟩ := List.mem_map.1 this
  exact ⟨s, hs, e.symm⟩
 have hrd : ∀ x ∈ es.toList, WideElems.rd P et (fun _ => some ((.lit (.bool true), []) : DataW Unit × List MemPlace)) x = some (.string (bs x.key), .lit (.bool true)) := fun x hx => by
  obtain ⟨s, hs, e⟩ := hkey x hx
  have hl : (⟨⟨s⟩⟩ : ByteArray).size ≤ maxLen := hks s hs
  simp [WideElems.rd, keyOf, hk, mapKey, e, bs, hl]
 have hown : w.ownsMap P et (fun _ => some ((.lit (.bool true), []) : DataW Unit × List MemPlace)) b es.size (.map ((es.toList.map (WideElems.rg P et fun _ => some (.lit (.bool true), []))).foldr DataW.insert [])) := by
  refine ⟨es, clock, h3, ⟨by omega, ⟨fun x hx => ?_, ?_, ?_⟩, fun x hx => ⟨_, hrd x hx⟩⟩, Nat.le_refl _, rfl⟩
  ·have : x.born ∈ List.range es.size := h6.2 ▸ List.mem_map.2 ⟨x, hx, rfl⟩
   rw [h6.1]; exact List.mem_range.1 this
  ·rw [h6.2]; exact List.nodup_range
  ·rw [h5]
   exact List.Pairwise.map _ (fun a b hne e => hne (by simpa using e)) hnd
 have hst : (strKeys (DataW.map ((es.toList.map (WideElems.rg P et fun _ => some ((.lit (.bool true), []) : DataW Unit × List MemPlace))).foldr DataW.insert []))).Perm ks := by
  have e1 : ((es.toList.map (WideElems.rg P et fun _ => some ((.lit (.bool true), []) : DataW Unit × List MemPlace))).map fun p => strOf p.1) = ks := by
   rw [List.map_map]
   have e2 : es.toList.map ((fun p : Lit × DataW Unit => strOf p.1) ∘ WideElems.rg P et fun _ => some ((.lit (.bool true), []) : DataW Unit × List MemPlace)) = (es.toList.map (·.key)).map bs := by
    rw [List.map_map]
    refine List.map_congr_left fun x hx => ?_
    simp only [Function.comp, WideElems.rg, hrd x hx, Option.getD_some, strOf]
   rw [e2, h5, List.map_map]
   exact List.map_id ks
  have := (WideShapes.sorted_perm (es.toList.map (WideElems.rg P et fun _ => some ((.lit (.bool true), []) : DataW Unit × List MemPlace)))).map fun p => strOf p.1
  rw [e1] at this
  exact this
 refine (h c b es.size _ w h1 hcl hown (by
  rw [Maps.size_eq, (WideShapes.sorted_perm _).length_eq, List.length_map, Array.length_toList]; omega)).mono ?_
 rintro e w' ⟨v, ss, rfl, hp, hrow, hnil, hb⟩
 have hp := hp.trans hst
 have hms : (ss.mergeSort fun x y => decide (x ≤ y)) = ks.mergeSort fun x y => decide (x ≤ y) := mergeSort_of_perm hp
 have hml : (ks.mergeSort fun x y => decide (x ≤ y)).length = ks.length := List.length_mergeSort _
 rw [hms] at hrow
 refine ⟨v, rfl, ⟨hb.os, hb.tape, hb.output, hb.size, hb.block⟩, fun L hF => ?_⟩
 obtain ⟨r1, r2⟩ := hrow
 rcases r2 with ⟨rfl, r2⟩ | ⟨gb, cap, cur, rfl, q1, q2, q3, q4, q5, q6⟩
 ·have : ss = [] := List.length_eq_zero_iff.1 r2
  subst this
  have : ks = [] := hp.nil_eq.symm
  subst this
  rw [List.mergeSort_nil]
  exact .slNil _ _
 ·have hne : ss ≠ [] := fun e => by have := hnil.2 e; simp at this
  have hkne : ks ≠ [] := fun e => hne (by subst e; exact hp.eq_nil)
  have hk0 : ks.isEmpty = false := by cases ks with
   | nil => exact absurd rfl hkne
   | cons => rfl
  rw [hk0]
  have hl : ss.length = ks.length := hp.length_eq
  rw [hl] at q3 q6 ⊢
  refine .sl (by simp) q3 (rows_of (hF gb q1) (fun s => sV s) (fun s => .string ⟨⟨s⟩⟩) (fun _ => rfl) (fun _ => .v _ _) _ 0 fun j x hj => ?_)
  have hj2 : ((ks.mergeSort fun x y => decide (x ≤ y)).map Go.Proofs.encStr)[j]? = some (.string ⟨⟨x⟩⟩) := by rw [List.getElem?_map, hj]; rfl
  rw [← q6, List.getElem?_take] at hj2
  split at hj2
  ·simp only [World.cell?, q2]
   simpa using hj2
  ·simp at hj2
end Go.Sym
namespace Go.Proofs.Tryz
open Go Go.Sym
@[reducible] def tbl : Tbl := [
 (2, ⟨.int .i64, 1, 8, some [(.int .i64 0)], true, false⟩),
 (3, ⟨.int .i64, 1, 8, some [(.int .i64 0)], true, false⟩),
 (4, ⟨.bool, 1, 1, some [(.bool false)], true, false⟩),
 (5, ⟨.int .u8, 1, 1, some [(.int .u8 0)], true, false⟩),
 (9, ⟨.str, 1, 16, some [(.string ⟨⟨[]⟩⟩)], true, false⟩),
 (12, ⟨.int .u64, 1, 8, some [(.int .u64 0)], true, false⟩),
 (20, ⟨.iface, 1, 16, some [.nilIface], true, false⟩),
 (21, ⟨.int .i32, 1, 4, some [(.int .i32 0)], true, false⟩),
 (22, ⟨.slice 51, 1, 24, some [(.slice none 0 0)], true, false⟩),
 (23, ⟨.struct [(0, 1, 22)], 1, 24, some [(.slice none 0 0)], true, false⟩),
 (24, ⟨.struct [(0, 1, 22)], 1, 24, some [(.slice none 0 0)], true, false⟩),
 (25, ⟨.slice 268, 1, 24, some [(.slice none 0 0)], true, false⟩),
 (26, ⟨.slice 54, 1, 24, some [(.slice none 0 0)], true, false⟩),
 (27, ⟨.slice 9, 1, 24, some [(.slice none 0 0)], true, false⟩),
 (28, ⟨.struct [(0, 1, 24), (1, 1, 25), (2, 1, 26), (3, 1, 27)], 4, 96, some [(.slice none 0 0), (.slice none 0 0), (.slice none 0 0), (.slice none 0 0)], true, false⟩),
 (29, ⟨.struct [(0, 1, 24), (1, 1, 25), (2, 1, 26), (3, 1, 27)], 4, 96, some [(.slice none 0 0), (.slice none 0 0), (.slice none 0 0), (.slice none 0 0)], true, false⟩),
 (32, ⟨.int .i64, 1, 8, some [(.int .i64 0)], true, false⟩),
 (43, ⟨.struct [(0, 1, 3), (1, 1, 9)], 2, 24, some [(.int .i64 0), (.string ⟨⟨[]⟩⟩)], true, false⟩),
 (44, ⟨.struct [(0, 1, 3), (1, 1, 9)], 2, 24, some [(.int .i64 0), (.string ⟨⟨[]⟩⟩)], true, false⟩),
 (50, ⟨.struct [(0, 1, 9), (1, 1, 3), (2, 1, 9)], 3, 40, some [(.string ⟨⟨[]⟩⟩), (.int .i64 0), (.string ⟨⟨[]⟩⟩)], true, false⟩),
 (51, ⟨.struct [(0, 1, 9), (1, 1, 3), (2, 1, 9)], 3, 40, some [(.string ⟨⟨[]⟩⟩), (.int .i64 0), (.string ⟨⟨[]⟩⟩)], true, false⟩),
 (52, ⟨.slice 270, 1, 24, some [(.slice none 0 0)], true, false⟩),
 (53, ⟨.struct [(0, 1, 9), (1, 1, 52)], 2, 40, some [(.string ⟨⟨[]⟩⟩), (.slice none 0 0)], true, false⟩),
 (54, ⟨.struct [(0, 1, 9), (1, 1, 52)], 2, 40, some [(.string ⟨⟨[]⟩⟩), (.slice none 0 0)], true, false⟩),
 (59, ⟨.map 9 4, 1, 8, some [(.map none)], true, false⟩),
 (71, ⟨.slice 75, 1, 24, some [(.slice none 0 0)], true, false⟩),
 (74, ⟨.struct [(0, 1, 3), (1, 1, 9), (2, 1, 9)], 3, 40, some [(.int .i64 0), (.string ⟨⟨[]⟩⟩), (.string ⟨⟨[]⟩⟩)], true, false⟩),
 (75, ⟨.struct [(0, 1, 3), (1, 1, 9), (2, 1, 9)], 3, 40, some [(.int .i64 0), (.string ⟨⟨[]⟩⟩), (.string ⟨⟨[]⟩⟩)], true, false⟩),
 (76, ⟨.struct [(0, 1, 9), (1, 1, 9), (2, 1, 3), (3, 1, 3)], 4, 48, some [(.string ⟨⟨[]⟩⟩), (.string ⟨⟨[]⟩⟩), (.int .i64 0), (.int .i64 0)], true, false⟩),
 (77, ⟨.struct [(0, 1, 9), (1, 1, 9), (2, 1, 3), (3, 1, 3)], 4, 48, some [(.string ⟨⟨[]⟩⟩), (.string ⟨⟨[]⟩⟩), (.int .i64 0), (.int .i64 0)], true, false⟩),
 (78, ⟨.struct [(0, 1, 9), (1, 1, 27), (2, 4, 77), (6, 4, 77), (10, 1, 9)], 11, 152, some [(.string ⟨⟨[]⟩⟩), (.slice none 0 0), (.string ⟨⟨[]⟩⟩), (.string ⟨⟨[]⟩⟩), (.int .i64 0), (.int .i64 0), (.string ⟨⟨[]⟩⟩), (.string ⟨⟨[]⟩⟩), (.int .i64 0), (.int .i64 0), (.string ⟨⟨[]⟩⟩)], true, false⟩),
 (79, ⟨.struct [(0, 1, 9), (1, 1, 27), (2, 4, 77), (6, 4, 77), (10, 1, 9)], 11, 152, some [(.string ⟨⟨[]⟩⟩), (.slice none 0 0), (.string ⟨⟨[]⟩⟩), (.string ⟨⟨[]⟩⟩), (.int .i64 0), (.int .i64 0), (.string ⟨⟨[]⟩⟩), (.string ⟨⟨[]⟩⟩), (.int .i64 0), (.int .i64 0), (.string ⟨⟨[]⟩⟩)], true, false⟩),
 (82, ⟨.struct [(0, 1, 9), (1, 1, 3), (2, 1, 9), (3, 4, 77), (7, 1, 9)], 8, 104, some [(.string ⟨⟨[]⟩⟩), (.int .i64 0), (.string ⟨⟨[]⟩⟩), (.string ⟨⟨[]⟩⟩), (.string ⟨⟨[]⟩⟩), (.int .i64 0), (.int .i64 0), (.string ⟨⟨[]⟩⟩)], true, false⟩),
 (83, ⟨.struct [(0, 1, 9), (1, 1, 3), (2, 1, 9), (3, 4, 77), (7, 1, 9)], 8, 104, some [(.string ⟨⟨[]⟩⟩), (.int .i64 0), (.string ⟨⟨[]⟩⟩), (.string ⟨⟨[]⟩⟩), (.string ⟨⟨[]⟩⟩), (.int .i64 0), (.int .i64 0), (.string ⟨⟨[]⟩⟩)], true, false⟩),
 (86, ⟨.map 9 79, 1, 8, some [(.map none)], true, false⟩),
 (87, ⟨.map 9 79, 1, 8, some [(.map none)], true, false⟩),
 (92, ⟨.slice 71, 1, 24, some [(.slice none 0 0)], true, false⟩),
 (93, ⟨.slice 3, 1, 24, some [(.slice none 0 0)], true, false⟩),
 (105, ⟨.struct [(0, 1, 24)], 1, 24, some [(.slice none 0 0)], true, false⟩),
 (106, ⟨.struct [(0, 1, 24)], 1, 24, some [(.slice none 0 0)], true, false⟩),
 (123, ⟨.slice 93, 1, 24, some [(.slice none 0 0)], true, false⟩),
 (124, ⟨.slice 4, 1, 24, some [(.slice none 0 0)], true, false⟩),
 (126, ⟨.slice 27, 1, 24, some [(.slice none 0 0)], true, false⟩),
 (136, ⟨.int .u64, 1, 8, some [(.int .u64 0)], true, false⟩),
 (144, ⟨.ptr 146, 1, 8, some [(.pointer none)], true, false⟩),
 (145, ⟨.struct [(0, 1, 9), (1, 1, 32)], 2, 24, some [(.string ⟨⟨[]⟩⟩), (.int .i64 0)], true, false⟩),
 (146, ⟨.struct [(0, 1, 9), (1, 1, 32)], 2, 24, some [(.string ⟨⟨[]⟩⟩), (.int .i64 0)], true, false⟩),
 (159, ⟨.slice 5, 1, 24, some [(.slice none 0 0)], true, false⟩),
 (164, ⟨.int .i64, 1, 8, some [(.int .i64 0)], true, false⟩),
 (171, ⟨.int .u32, 1, 4, some [(.int .u32 0)], true, false⟩),
 (173, ⟨.int .u64, 1, 8, some [(.int .u64 0)], true, false⟩),
 (176, ⟨.map 9 3, 1, 8, some [(.map none)], true, false⟩),
 (177, ⟨.struct [(0, 1, 3), (1, 1, 9)], 2, 24, some [(.int .i64 0), (.string ⟨⟨[]⟩⟩)], true, false⟩),
 (178, ⟨.struct [(0, 1, 3), (1, 1, 9)], 2, 24, some [(.int .i64 0), (.string ⟨⟨[]⟩⟩)], true, false⟩),
 (179, ⟨.array 4 178, 8, 96, some [(.int .i64 0), (.string ⟨⟨[]⟩⟩), (.int .i64 0), (.string ⟨⟨[]⟩⟩), (.int .i64 0), (.string ⟨⟨[]⟩⟩), (.int .i64 0), (.string ⟨⟨[]⟩⟩)], true, false⟩),
 (183, ⟨.slice 171, 1, 24, some [(.slice none 0 0)], true, false⟩),
 (188, ⟨.int .u64, 1, 8, some [(.int .u64 0)], true, false⟩),
 (192, ⟨.ptr 3, 1, 8, some [(.pointer none)], true, false⟩),
 (197, ⟨.ptr 188, 1, 8, some [(.pointer none)], true, false⟩),
 (204, ⟨.iface, 1, 16, some [.nilIface], false, false⟩),
 (205, ⟨.iface, 1, 16, some [.nilIface], false, false⟩),
 (208, ⟨.array 24 5, 24, 24, some (List.replicate 24 (.int .u8 0)), true, false⟩),
 (218, ⟨.array 256 4, 256, 256, some (List.replicate 256 (.bool false)), true, false⟩),
 (219, ⟨.array 256 4, 256, 256, some (List.replicate 256 (.bool false)), true, false⟩),
 (224, ⟨.array 20 173, 20, 160, some (List.replicate 20 (.int .u64 0)), true, false⟩),
 (225, ⟨.array 65 5, 65, 65, some (List.replicate 65 (.int .u8 0)), true, false⟩),
 (227, ⟨.int .i64, 1, 8, some [(.int .i64 0)], true, false⟩),
 (230, ⟨.ptr 240, 1, 8, some [(.pointer none)], true, false⟩),
 (234, ⟨.ptr 219, 1, 8, some [(.pointer none)], true, false⟩),
 (239, ⟨.struct [(0, 1, 9), (1, 1, 9), (2, 1, 205)], 3, 48, some [(.string ⟨⟨[]⟩⟩), (.string ⟨⟨[]⟩⟩), .nilIface], false, false⟩),
 (240, ⟨.struct [(0, 1, 9), (1, 1, 9), (2, 1, 205)], 3, 48, some [(.string ⟨⟨[]⟩⟩), (.string ⟨⟨[]⟩⟩), .nilIface], false, false⟩),
 (242, ⟨.array 32 5, 32, 32, some (List.replicate 32 (.int .u8 0)), true, false⟩),
 (243, ⟨.array 64 5, 64, 64, some (List.replicate 64 (.int .u8 0)), true, false⟩),
 (245, ⟨.ptr 5, 1, 8, some [(.pointer none)], true, false⟩),
 (246, ⟨.ptr 248, 1, 8, some [(.pointer none)], true, false⟩),
 (247, ⟨.struct [(0, 1, 9)], 1, 16, some [(.string ⟨⟨[]⟩⟩)], true, false⟩),
 (248, ⟨.struct [(0, 1, 9)], 1, 16, some [(.string ⟨⟨[]⟩⟩)], true, false⟩),
 (249, ⟨.array 256 5, 256, 256, some (List.replicate 256 (.int .u8 0)), true, false⟩),
 (250, ⟨.struct [(0, 1, 5), (1, 1, 5)], 2, 2, some [(.int .u8 0), (.int .u8 0)], true, false⟩),
 (251, ⟨.struct [(0, 1, 5), (1, 1, 5)], 2, 2, some [(.int .u8 0), (.int .u8 0)], true, false⟩),
 (252, ⟨.array 16 251, 32, 32, some (List.replicate 32 (.int .u8 0)), true, false⟩),
 (267, ⟨.struct [(0, 1, 9), (1, 1, 9), (2, 1, 9)], 3, 48, some [(.string ⟨⟨[]⟩⟩), (.string ⟨⟨[]⟩⟩), (.string ⟨⟨[]⟩⟩)], true, false⟩),
 (268, ⟨.struct [(0, 1, 9), (1, 1, 9), (2, 1, 9)], 3, 48, some [(.string ⟨⟨[]⟩⟩), (.string ⟨⟨[]⟩⟩), (.string ⟨⟨[]⟩⟩)], true, false⟩),
 (269, ⟨.struct [(0, 1, 9), (1, 1, 9), (2, 4, 77), (6, 1, 9)], 7, 96, some [(.string ⟨⟨[]⟩⟩), (.string ⟨⟨[]⟩⟩), (.string ⟨⟨[]⟩⟩), (.string ⟨⟨[]⟩⟩), (.int .i64 0), (.int .i64 0), (.string ⟨⟨[]⟩⟩)], true, false⟩),
 (270, ⟨.struct [(0, 1, 9), (1, 1, 9), (2, 4, 77), (6, 1, 9)], 7, 96, some [(.string ⟨⟨[]⟩⟩), (.string ⟨⟨[]⟩⟩), (.string ⟨⟨[]⟩⟩), (.string ⟨⟨[]⟩⟩), (.int .i64 0), (.int .i64 0), (.string ⟨⟨[]⟩⟩)], true, false⟩)]
theorem tblEq : mkTbl Tryz.prog [2, 3, 4, 5, 9, 12, 20, 21, 22, 23, 24, 25, 26, 27, 28, 29, 32, 43, 44, 50, 51, 52, 53, 54, 59, 71, 74, 75, 76, 77, 78, 79, 82, 83, 86, 87, 92, 93, 105, 106, 123, 124, 126, 136, 144, 145, 146, 159, 164, 171, 173, 176, 177, 178, 179, 183, 188, 192, 197, 204, 205, 208, 218, 219, 224, 225, 227, 230, 234, 239, 240, 242, 243, 245, 246, 247, 248, 249, 250, 251, 252, 267, 268, 269, 270] = tbl := by kernel_rfl
theorem tblOk : TOk Tryz.prog tbl := tblEq ▸ mkTbl_ok Tryz.prog _
theorem mixed : Tryz.prog.follows .mixedOrders = true := by kernel_rfl
abbrev gMax : Nat := 0
abbrev gPow : Nat := 1
instance globs : Globs Tryz.prog := ⟨[(gMax, isInt), (gPow, rowIs (Lib.pow10Tab.map fun z => .int .u64 z))]⟩
end Go.Proofs.Tryz
namespace Go.Proofs.Tryz
open Go Go.Sym Go.Graft
set_option maxRecDepth 20000
theorem cTurn2 (x : W32) (n : Nat) (hn : n ≤ 32) : Ctr prog 186 [wV x, iV n] [] (wV (rotr x n)) [] [] := by
 have e : (32 - (n : Int)).toNat = 32 - n := by omega
 simp only [rotr]
 rw [← e]
 refine Ctr.enter tblOk func186 rfl (by decide) rfl (nt := 13) rfl rfl rfl rfl ?_
 refine Trip.sr tblOk ?_
 refine Trip.sD tblOk mixed (by repeat' (first | exact rfl | (with_reducible apply binW_or) | (with_reducible apply binW_shrC) | (with_reducible apply binW_shlG) | ((with_reducible refine Side.mk ?_); omega) | constructor)) ?_
 refine Trip.ret (rt1 [])
end Go.Proofs.Tryz
namespace Go.Proofs.Tryz
open Go Go.Sym Go.Graft
set_option maxRecDepth 20000
theorem wd_snoc (s : Str) (a i : Nat) (h : i < 16) {x : W32} (hx : x = BitVec.ofNat 32 (s.getD ((a : Int) + 4 * (i : Int)).toNat 0).toNat <<< 24 + BitVec.ofNat 32 (s.getD ((a : Int) + 4 * (i : Int) + 1).toNat 0).toNat <<< 16 + BitVec.ofNat 32 (s.getD ((a : Int) + 4 * (i : Int) + 2).toNat 0).toNat <<< 8 + BitVec.ofNat 32 (s.getD ((a : Int) + 4 * (i : Int) + 3).toNat 0).toNat) :
  ((List.range i).map (wd ((s.drop a).take 64))).map wV ++ [wV x] = ((List.range (i + 1)).map (wd ((s.drop a).take 64))).map wV := by
 rw [List.range_succ, List.map_append, List.map_append]
 congr 2
 rw [hx, be32_add]
 simp only [wd, getD_bang, List.map_cons, List.map_nil]
 rw [blk_get _ _ _ (by omega), blk_get _ _ _ (by omega), blk_get _ _ _ (by omega), blk_get _ _ _ (by omega)]
 rw [show ((a : Int) + 4 * (i : Int)).toNat = a + 4 * i by omega, show ((a : Int) + 4 * (i : Int) + 1).toNat = a + (4 * i + 1) by omega, show ((a : Int) + 4 * (i : Int) + 2).toNat = a + (4 * i + 2) by omega, show ((a : Int) + 4 * (i : Int) + 3).toNat = a + (4 * i + 3) by omega]
theorem ws_snoc (b : Str) (k : Nat) {x : W32} (hx : x = sg1 (wsN b k)[14 + k]! + (wsN b k)[9 + k]! + sg0 (wsN b k)[1 + k]! + (wsN b k)[k]!) : (wsN b k).map wV ++ [wV x] = (wsN b (k + 1)).map wV := by
 rw [wsN_succ, hx, List.map_append]; rfl
theorem cWords2 (s : Str) (a : Nat) (h : a + 64 ≤ s.length) (hs : s.length ≤ 1000000000000) : Ctr prog 164 [sV s, iV a] [] (.sl false 1 ((wsN ((s.drop a).take 64) 48).map wV)) [] [] := by
 have c7 : ∀ x, Ctr prog 186 [wV x, iV 7] [] (wV (rotr x 7)) [] [] := fun x => cTurn2 x 7 (by omega)
 have c18 : ∀ x, Ctr prog 186 [wV x, iV 18] [] (wV (rotr x 18)) [] [] := fun x => cTurn2 x 18 (by omega)
 have c17 : ∀ x, Ctr prog 186 [wV x, iV 17] [] (wV (rotr x 17)) [] [] := fun x => cTurn2 x 17 (by omega)
 have c19 : ∀ x, Ctr prog 186 [wV x, iV 19] [] (wV (rotr x 19)) [] [] := fun x => cTurn2 x 19 (by omega)
 refine Ctr.enter tblOk func164 rfl (by decide) rfl (nt := 99) rfl rfl rfl rfl ?_
 refine Trip.sr tblOk ?_
 refine Trip.sr tblOk ?_
 refine Trip.seq (Trip.sr tblOk ?_)
 refine Trip.block ?_
 refine Trip.loop (fun (i : Nat) => ⟨[(0, sV s), (1, iV a), (5, .osl 13 0 i i), (6, iV i)], [(13, .arr 1 false (((List.range i).map (wd ((s.drop a).take 64))).map wV))]⟩) (fun (i : Nat) => i ≤ 16) (fun (i : Nat) => 16 - i) (0) (by first | omega | (simp; done)) Weak.kp ?_
 intro i hi
 refine Trip.seq (Trip.sr tblOk ?_)
 apply Trip.cond (.tmp rfl)
 ·intro h2
  have h2 : i < 16 := by have : (i : Int) < 16 := by simpa using h2
                         omega
  refine Trip.skip ?_
  refine Trip.seqk ⟨[(0, sV s), (1, iV a), (5, .osl 13 0 (i + 1) (i + 1)), (6, iV i)], [(13, .arr 1 false (((List.range (i + 1)).map (wd ((s.drop a).take 64))).map wV))]⟩ ?_ ?_
  ·refine Trip.block (Trip.sR tblOk (by repeat' (first | exact rfl | ((with_reducible refine Side.mk ?_); omega) | constructor)) ?_)
   refine Trip.D tblOk mixed (by repeat' (first | exact rfl | (with_reducible apply binW_add) | (with_reducible apply binW_shl) | (with_reducible apply convW8) | ((with_reducible refine Side.mk ?_); first | omega | (simp only [ln]; first | done | omega)) | constructor)) ?_
   exact Weak.kp (ht := by repeat' (first | exact rfl | (refine Side.mk (oslE ?_ ?_) <;> (simp only [ln]; first | done | omega)) | constructor)) (ho := by repeat' (first | exact rfl | exact arrE (wd_snoc s a i h2 rfl) | constructor)) (huo := by repeat' (first | exact plainL_map _ (fun _ => rfl) _ | constructor))
  refine Trip.R tblOk (by repeat' (first | exact rfl | ((with_reducible refine Side.mk ?_); omega) | constructor)) ?_
  exact ⟨i + 1, by first | omega | (dsimp only at *; omega), by first | omega | (dsimp only at *; omega), Weak.kp (huo := by repeat' (first | exact plainL_map _ (fun _ => rfl) _ | constructor))⟩
 intro h2
 have h2 : i = 16 := by have : ¬ (i : Int) < 16 := by simpa using h2
                        omega
 subst h2
 refine Trip.exit (Trip.seq (Trip.sr tblOk ?_))
 refine Trip.block ?_
 refine Trip.loop (fun (k : Nat) => ⟨[(5, .osl 13 0 (16 + k) (16 + k)), (8, iV (16 + k))], [(13, .arr 1 false ((wsN ((s.drop a).take 64) k).map wV))]⟩) (fun (k : Nat) => k ≤ 48) (fun (k : Nat) => 48 - k) (0) (by first | omega | (simp; done)) Weak.kp ?_
 intro k hk
 have hl := wsN_length ((s.drop a).take 64) k
 have hs2 := @ws_snoc ((s.drop a).take 64) k
 generalize (s.drop a).take 64 = b at *
 refine Trip.seq (Trip.sr tblOk ?_)
 apply Trip.cond (.tmp rfl)
 ·intro h2
  have h2 : k < 48 := by have : (16 + (k : Int)) < 64 := by simpa using h2
                         omega
  refine Trip.skip ?_
  refine Trip.seqk ⟨[(5, .osl 13 0 (16 + (k + 1)) (16 + (k + 1))), (8, iV (16 + k))], [(13, .arr 1 false ((wsN b (k + 1)).map wV))]⟩ ?_ ?_
  ·refine Trip.block ?_
   refine Trip.dk ⟨[(5, .osl 13 0 (16 + k) (16 + k)), (8, iV (16 + k)), (9, wV (wsN b k)[1 + k]!), (10, wV (wsN b k)[14 + k]!)], [(13, .arr 1 false ((wsN b k).map wV))]⟩ tblOk mixed (by repeat' (first | exact rfl | exact idx_map _ _ _ (by show _ < _; first | omega | (simp only [List.length_map] at *; omega)) | ((with_reducible refine Side.mk ?_); first | omega | (simp only [ln]; first | done | omega)) | constructor)) (Weak.kp (ht := by repeat' (first | exact rfl | exact congrArg (fun i => wV (wsN b k)[i]!) (show 0 + (16 + (k : Int) - 15).toNat = 1 + k by omega) | exact congrArg (fun i => wV (wsN b k)[i]!) (show 0 + (16 + (k : Int) - 2).toNat = 14 + k by omega) | constructor)) (huo := by repeat' (first | exact plainL_map _ (fun _ => rfl) _ | constructor))) ?_
   refine Trip.rk ⟨[(5, .osl 13 0 (16 + k) (16 + k)), (8, iV (16 + k)), (11, wV (sg0 (wsN b k)[1 + k]!)), (10, wV (wsN b k)[14 + k]!)], [(13, .arr 1 false ((wsN b k).map wV))]⟩ tblOk (by repeat' (first | exact rfl | (apply Rule.sem; intro hγ; with_reducible apply F_call0 (dst := some 65) (x := .func 186) (B := []) hγ (hspec := (c7 _))) | (apply Rule.sem; intro hγ; with_reducible apply F_call0 (dst := some 67) (x := .func 186) (B := []) hγ (hspec := (c18 _))) | (with_reducible apply binW_xor) | (with_reducible apply binW_shr) | ((with_reducible refine Side.mk ?_); exact .inl rfl) | constructor)) (Weak.kp (huo := by repeat' (first | exact plainL_map _ (fun _ => rfl) _ | constructor))) ?_
   refine Trip.rk ⟨[(5, .osl 13 0 (16 + k) (16 + k)), (8, iV (16 + k)), (11, wV (sg0 (wsN b k)[1 + k]!)), (12, wV (sg1 (wsN b k)[14 + k]!))], [(13, .arr 1 false ((wsN b k).map wV))]⟩ tblOk (by repeat' (first | exact rfl | (apply Rule.sem; intro hγ; with_reducible apply F_call0 (dst := some 73) (x := .func 186) (B := []) hγ (hspec := (c17 _))) | (apply Rule.sem; intro hγ; with_reducible apply F_call0 (dst := some 75) (x := .func 186) (B := []) hγ (hspec := (c19 _))) | (with_reducible apply binW_xor) | (with_reducible apply binW_shr) | ((with_reducible refine Side.mk ?_); exact .inl rfl) | constructor)) (Weak.kp (huo := by repeat' (first | exact plainL_map _ (fun _ => rfl) _ | constructor))) ?_
   refine Trip.D tblOk mixed (by repeat' (first | exact rfl | (with_reducible apply binW_add) | exact idx_map _ _ _ (by show _ < _; first | omega | (simp only [List.length_map] at *; omega)) | ((with_reducible refine Side.mk ?_); first | omega | (simp only [ln]; first | done | omega)) | constructor)) ?_
   exact Weak.kp (ht := by repeat' (first | exact rfl | (refine Side.mk (oslE ?_ ?_) <;> (simp only [ln]; first | done | omega)) | constructor)) (ho := by repeat' (first | exact rfl | (refine arrE (hs2 ?_); rw [show 0 + (16 + (k : Int) - 7).toNat = 9 + k by omega, show 0 + (16 + (k : Int) - 16).toNat = k by omega]) | constructor)) (huo := by repeat' (first | exact plainL_map _ (fun _ => rfl) _ | constructor))
  refine Trip.R tblOk (by repeat' (first | exact rfl | ((with_reducible refine Side.mk ?_); omega) | constructor)) ?_
  exact ⟨k + 1, by first | omega | (dsimp only at *; omega), by first | omega | (dsimp only at *; omega), Weak.kp (huo := by repeat' (first | exact plainL_map _ (fun _ => rfl) _ | constructor))⟩
 intro h2
 have h2 : k = 48 := by have : ¬ (16 + (k : Int)) < 64 := by simpa using h2
                        omega
 subst h2
 generalize wsN b 48 = ws at *
 refine Trip.exit (Trip.sr tblOk ?_)
 refine Trip.ret (rt1 [13] (hc := by repeat' (first | exact rfl | exact plainL_map _ (fun _ => rfl) _ | (refine Side.mk ?_; simp only [ln]; first | done | omega) | constructor)))
end Go.Proofs.Tryz
namespace Go.Proofs.Tryz
open Go Go.Sym Go.Graft
set_option maxRecDepth 20000
theorem cFirst2 : Ctr prog 161 [] [] (.sl false 1 (first.map wV)) [] [] := by
 refine Ctr.enter tblOk func161 rfl (by decide) rfl (nt := 2) rfl rfl rfl rfl ?_
 refine Trip.sr tblOk ?_
 refine Trip.sr tblOk ?_
 refine Trip.ret (rt1 [1])
theorem cKeys2 : Ctr prog 162 [] [] (.sl false 1 (keys.map wV)) [] [] := by
 refine Ctr.enter tblOk func162 rfl (by decide) rfl (nt := 2) rfl rfl rfl rfl ?_
 refine Trip.sr tblOk ?_
 refine Trip.sr tblOk ?_
 refine Trip.ret (rt1 [1])
set_option maxHeartbeats 1000000 in
theorem cBlock2 (nl n2 n3 : Bool) (h ws ks : List W32) (hh : h.length = 8) (hw : ws.length = 64) (hk : ks.length = 64) (hks : ks = keys) : Ctr prog 163 [.sl nl 1 (h.map wV), .sl n2 1 (ws.map wV), .sl n3 1 (ks.map wV)] [] (.sl false 1 ((List.zipWith (· + ·) h (rdN ws h 64)).map wV)) [] [] := by
 have ct := fun x n => @cTurn2 x n
 have e0 : rdN ws h 0 = h := rfl
 have hid : ∀ i, i < 8 → (h.map wV)[i]? = some (wV h[i]!) := fun i hi => idx_map _ _ _ (by omega)
 have h0 := hid 0 (by omega); have h1 := hid 1 (by omega); have h2 := hid 2 (by omega); have h3 := hid 3 (by omega)
 have h4 := hid 4 (by omega); have h5 := hid 5 (by omega); have h6 := hid 6 (by omega); have h7 := hid 7 (by omega)
 have c6 : ∀ x, Ctr prog 186 [wV x, iV 6] [] (wV (rotr x 6)) [] [] := fun x => cTurn2 x 6 (by omega)
 have c11 : ∀ x, Ctr prog 186 [wV x, iV 11] [] (wV (rotr x 11)) [] [] := fun x => cTurn2 x 11 (by omega)
 have c25 : ∀ x, Ctr prog 186 [wV x, iV 25] [] (wV (rotr x 25)) [] [] := fun x => cTurn2 x 25 (by omega)
 have c2 : ∀ x, Ctr prog 186 [wV x, iV 2] [] (wV (rotr x 2)) [] [] := fun x => cTurn2 x 2 (by omega)
 have c13 : ∀ x, Ctr prog 186 [wV x, iV 13] [] (wV (rotr x 13)) [] [] := fun x => cTurn2 x 13 (by omega)
 have c22 : ∀ x, Ctr prog 186 [wV x, iV 22] [] (wV (rotr x 22)) [] [] := fun x => cTurn2 x 22 (by omega)
 refine Ctr.enter tblOk func163 rfl (by decide) rfl (nt := 148) rfl rfl rfl rfl ?_
 refine Trip.sr tblOk ?_
 refine Trip.sD tblOk mixed (by repeat' (first | exact rfl | exact idx_map _ _ _ (by show _ < _; first | omega | (simp only [List.length_map] at *; omega)) | ((with_reducible refine Side.mk ?_); (simp only [ln]; first | done | omega)) | constructor)) ?_
 refine Trip.sD tblOk mixed (by repeat' (first | exact rfl | exact idx_map _ _ _ (by show _ < _; first | omega | (simp only [List.length_map] at *; omega)) | ((with_reducible refine Side.mk ?_); (simp only [ln]; first | done | omega)) | constructor)) ?_
 refine Trip.seq (Trip.sr tblOk ?_)
 refine Trip.block ?_
 refine Trip.loop (fun (t : Nat) => ⟨[(0, .sl nl 1 (h.map wV)), (1, .sl n2 1 (ws.map wV)), (2, .sl n3 1 (ks.map wV)), (7, wV (rdN ws h t)[0]!), (8, wV (rdN ws h t)[1]!), (9, wV (rdN ws h t)[2]!), (10, wV (rdN ws h t)[3]!), (11, wV (rdN ws h t)[4]!), (12, wV (rdN ws h t)[5]!), (13, wV (rdN ws h t)[6]!), (14, wV (rdN ws h t)[7]!), (15, iV t)], []⟩) (fun (t : Nat) => t ≤ 64) (fun (t : Nat) => 64 - t) (0) (by first | omega | (simp; done)) Weak.kp ?_
 intro t ht
 have hr := rnd_eq keys[t]! ws[t]! (rdN ws h t) (rdN_len ws h hh t)
 have hr2 : rdN ws h (t + 1) = rnd keys[t]! ws[t]! (rdN ws h t) := rfl
 rw [hr] at hr2
 rw [← hks] at hr2
 generalize hv' : rdN ws h (t + 1) = v' at *
 refine Trip.seq (Trip.sr tblOk ?_)
 apply Trip.cond (.tmp rfl)
 ·intro hlt
  have hlt : t < 64 := by have : (t : Int) < 64 := by simpa using hlt
                          omega
  generalize rdN ws h t = v at *
  refine Trip.skip ?_
  refine Trip.seqk ⟨[(0, .sl nl 1 (h.map wV)), (1, .sl n2 1 (ws.map wV)), (2, .sl n3 1 (ks.map wV)), (7, wV v'[0]!), (8, wV v'[1]!), (9, wV v'[2]!), (10, wV v'[3]!), (11, wV v'[4]!), (12, wV v'[5]!), (13, wV v'[6]!), (14, wV v'[7]!), (15, iV t)], []⟩ ?_ ?_
  ·refine Trip.block (Trip.sD tblOk mixed (by repeat' (first | exact rfl | (apply Rule.sem; intro hγ; with_reducible apply F_call0 (dst := some 48) (x := .func 186) (B := []) hγ (hspec := (c6 _))) | (apply Rule.sem; intro hγ; with_reducible apply F_call0 (dst := some 50) (x := .func 186) (B := []) hγ (hspec := (c11 _))) | (apply Rule.sem; intro hγ; with_reducible apply F_call0 (dst := some 53) (x := .func 186) (B := []) hγ (hspec := (c25 _))) | (with_reducible apply binW_add) | (with_reducible apply binW_xor) | (with_reducible apply binW_and) | (with_reducible apply unW_not) | exact idx_map _ _ _ (by show _ < _; first | omega | (simp only [List.length_map] at *; omega)) | ((with_reducible refine Side.mk ?_); first | exact .inl rfl | (simp only [ln]; first | done | omega)) | constructor)) ?_)
   refine Trip.sR tblOk (by repeat' (first | exact rfl | (apply Rule.sem; intro hγ; with_reducible apply F_call0 (dst := some 76) (x := .func 186) (B := []) hγ (hspec := (c2 _))) | (apply Rule.sem; intro hγ; with_reducible apply F_call0 (dst := some 78) (x := .func 186) (B := []) hγ (hspec := (c13 _))) | (apply Rule.sem; intro hγ; with_reducible apply F_call0 (dst := some 81) (x := .func 186) (B := []) hγ (hspec := (c22 _))) | (with_reducible apply binW_add) | (with_reducible apply binW_xor) | (with_reducible apply binW_and) | ((with_reducible refine Side.mk ?_); exact .inl rfl) | constructor)) ?_
   refine Trip.sr tblOk ?_
   refine Trip.sr tblOk ?_
   refine Trip.sr tblOk ?_
   refine Trip.sR tblOk (by repeat' (first | exact rfl | (with_reducible apply binW_add) | constructor)) ?_
   refine Trip.sr tblOk ?_
   refine Trip.sr tblOk ?_
   refine Trip.sr tblOk ?_
   refine Trip.R tblOk (by repeat' (first | exact rfl | (with_reducible apply binW_add) | constructor)) ?_
   rw [hr2]
   exact Weak.kp
  refine Trip.R tblOk (by repeat' (first | exact rfl | ((with_reducible refine Side.mk ?_); omega) | constructor)) ?_
  exact ⟨t + 1, by first | omega | (dsimp only at *; omega), by first | omega | (dsimp only at *; omega), Weak.kp (ht := by repeat' (first | exact rfl | (rw [hv']; rfl) | constructor))⟩
 intro hlt
 have hlt : t = 64 := by have : ¬ (t : Int) < 64 := by simpa using hlt
                         omega
 subst hlt
 have hz := zip8 h (rdN ws h 64) hh (rdN_len ws h hh 64)
 generalize rdN ws h 64 = v at *
 rw [hz]
 refine Trip.exit (Trip.sD tblOk mixed (by repeat' (first | exact rfl | (with_reducible apply binW_add) | exact idx_map _ _ _ (by show _ < _; first | omega | (simp only [List.length_map] at *; omega)) | ((with_reducible refine Side.mk ?_); (simp only [ln]; first | done | omega)) | constructor)) ?_)
 refine Trip.ret (rt1 [147])
end Go.Proofs.Tryz
