/- The law holds for every input: it returns true and leaves its arguments as they were; the card ties the listed variables to the text of the program. No further conditions. -/
import Derived.Test.YtbnnmnbidkpmcaaGreatDoorTie
import Derived.Test.YtbnnmnbidkpmcaaGreatDoorCards
import Derived.OpenShut
import Derived.SevenTiedAt
import Derived.Test.YtbnnmnbidkpmcaaGreatDoorPart48
set_option linter.unusedVariables false
set_option linter.unusedSimpArgs false
namespace Go.Proofs.YtbnnmnbidkpmcaaGreatDoor
open Go Go.Sym Go.Graft Go.Proofs.Tryz Go.ChangeShapes Go.WideShapes Go.ChangeAt Go.RowKit
set_option maxRecDepth 100000
theorem cells41 : Tryz.prog.cellsOf 41 = 1 := by kernel_rfl
theorem openText : Opens Tryz.prog 41 (fun x : Bool × List Str => [.sl x.1 1 (x.2.map fun s => sV s)]) (fun x => x.1 = true → x.2 = []) :=
 Opens.iso (Opens.slice Tryz.underlying41 cells9 (by decide) (Opens.str Tryz.underlying9) (fun s => sV s) (fun _ => rfl)) (fun x => x) fun _ h => ⟨h.1, rfl⟩
theorem openTexts : OpensA Tryz.prog 41 (fun x : Bool × List Str => .sl x.1 1 (x.2.map fun s => sV s)) (fun _ => True) :=
 OpensA.one Tryz.underlying41 rfl (Opens.iso openText (fun x => x) fun _ _ => ⟨trivial, rfl⟩)
theorem openLists : OpensA Tryz.prog 47 (fun x : Bool × List (Bool × List Str) => .sl x.1 1 (x.2.map lstV)) (fun x => ∀ y ∈ x.2, y.1 = true → y.2 = []) :=
 OpensA.one Tryz.underlying47 rfl (Opens.iso (Opens.slice Tryz.underlying47 cells41 (by decide) openText lstV (fun _ => rfl)) (fun x => x) fun _ h => ⟨h.2.2, rfl⟩)
theorem opensLaw : OpensL Tryz.prog [24, 41, 47] (fun (x : (Bool × List It) × (Bool × List Str) × (Bool × List (Bool × List Str)) × Unit) => [stPV x.1.1 x.1.2, .sl x.2.1.1 1 (x.2.1.2.map fun s => sV s), .sl x.2.2.1.1 1 (x.2.2.1.2.map lstV)]) (fun x => GoodSt x.1 ∧ True ∧ (∀ y ∈ x.2.2.1.2, y.1 = true → y.2 = []) ∧ True) := OpensL.cons openStA (OpensL.cons openTexts (OpensL.cons openLists OpensL.nil))
theorem ctrLaw : ∀ x, ((fun (x : (Bool × List It) × (Bool × List Str) × (Bool × List (Bool × List Str)) × Unit) => GoodSt x.1 ∧ True ∧ (∀ y ∈ x.2.2.1.2, y.1 = true → y.2 = []) ∧ True) x) → Ctr Tryz.prog 6 ((fun (x : (Bool × List It) × (Bool × List Str) × (Bool × List (Bool × List Str)) × Unit) => [stPV x.1.1 x.1.2, .sl x.2.1.1 1 (x.2.1.2.map fun s => sV s), .sl x.2.2.1.1 1 (x.2.2.1.2.map lstV)]) x) [] (bV true) [] [] := fun x h => cStoreReaches x.1.1 x.2.1.1 x.2.2.1.1 x.1.2 x.2.1.2 x.2.2.1.2 h.2.2.1
theorem isLaw : IsLaw Rows.storeReachesSpec 3 := ⟨rfl, fun H ds h => by
  match ds, h with
  | [d1, d2, d3], _ => rfl⟩
theorem liftedLaw (os : Os) (started : os.Started) (H : Type) (enc : TypeId × Value → H) :
  ReturnsInHanded {} Tryz.checked os 6 .any (fun w args => (Rows.storeReachesSpec.pre enc Tryz.prog Tryz.f6 Rows.storeReachesRow.domain false w args ∧ laidMetH Tryz.prog Rows.storeReachesRow.laid w) ∧ sizedMet enc Tryz.prog Tryz.f6 (OpenSpec.ofChange Rows.storeReachesSpec) false w args)
   (Rows.storeReachesSpec.post enc Tryz.prog Tryz.f6 false true false false) := by
 refine lifted_of (C := Tryz.checked) (X := fun w _ => laidMetH Tryz.prog Rows.storeReachesRow.laid w) (fun _ _ _ hh h => h.of_heap hh) own started (by kernel_rfl) Tryz.func6
  (ChangeSpec.witness_shaped (enc := enc) (C := Tryz.checked) (os := os) (X := fun w _ => laidMetH Tryz.prog Rows.storeReachesRow.laid w) false (World.laidAll Tryz.prog os Rows.storeReachesRow.laid) #[.agg #[.slice none 0 0], .slice none 0 0, .slice none 0 0] 8 (World.laidAll_os _ _ _)
   (World.shaped_of_ZipB (by kernel_rfl) (by kernel_rfl)) (by kernel_rfl) (by kernel_rfl) (by kernel_rfl)
   (by rw [MakeChecks.laidMetH_plain _ _ _ (by kernel_rfl)]; exact laidMet_laidAll _ (by kernel_rfl) (by kernel_rfl))) ?_
 intro W base args ds gs before hval hW hz hL hsh
 exact law_calls (P := Tryz.prog) (params := [24, 41, 47]) Tryz.params6 (by kernel_rfl) Tryz.underlying4 isLaw laidOut (by kernel_rfl) opensLaw ctrLaw W (globs_of hL hsh) base args ds gs before hval hW hz
theorem storeReaches_row : Rows.StoreReachesSaid :=
 OpenClaim.holds_of_wide 6 Tryz.f6 rfl rfl rfl rfl rfl rfl rfl ⟨rfl, rfl, rfl, rfl, rfl⟩ rfl rfl rfl rfl rfl (by kernel_rfl) Tryz.func6 (by kernel_rfl)
  (of_decide_eq_true (by kernel_rfl)) (by unfold Func.isWrapper; first | (rw [if_pos (by decide +kernel)]; kernel_rfl) | (rw [if_neg (by decide +kernel)]; exact ⟨rfl, rfl⟩))
  (fun os started H enc _ => liftedLaw os started H enc)
theorem storeReaches_holds : Rows.StoreReachesCardSaid :=
 Claim7.holds_tied_plain_at .later [] [.data, .data, .data, .data, .sentinel, .sentinel, .data, .pinned] true (true, "9e54dca1ea43922e5e6cb49179b4ac4e8da0e10883ad77a8c69e33fb19bdce23") true storeReaches_row (fun _ h => by cases h) (by kernel_rfl) (fun _ h => by cases h) storeReaches_row_tie rfl ⟨rfl, rfl⟩ (by kernel_rfl) rfl
  (fun f fn hf hfn => by
   obtain rfl : f = 6 := Option.some.inj ((show Tryz.prog.funcNamed "graftage/graftagelaw17.StoreReaches" = some 6 by kernel_rfl).symm.trans hf) |>.symm
   obtain rfl : fn = Tryz.f6 := (Option.some.inj (Tryz.func6.symm.trans hfn)).symm
   exact ⟨by kernel_rfl, fun j t ht => by
    rw [Tryz.params6] at ht
    have hm : t ∈ [24, 41, 47] := by simpa using Array.mem_of_getElem? ht
    have hall : ([24, 41, 47].all fun u => !Tryz.prog.wantsStandIn u) = true := by kernel_rfl
    exact (show Tryz.prog.wantsStandIn t = false by simpa using List.all_eq_true.1 hall t hm)⟩)
  (by kernel_rfl)
end Go.Proofs.YtbnnmnbidkpmcaaGreatDoor
