/- The law holds for every input: it returns true and leaves its arguments as they were; the card ties the listed variables to the text of the program. No further conditions. -/
import Derived.Test.YtbnnmnbidkpmcaaGreatDoorRows
import Derived.Lay
import Derived.LaidMore
import Derived.Stop.Joined
import Derived.MakeChecks
import Derived.Lib.LaidU8
import Derived.Test.YtbnnmnbidkpmcaaGreatDoorPart45
import Derived.Test.YtbnnmnbidkpmcaaGreatDoorTie
import Derived.Test.YtbnnmnbidkpmcaaGreatDoorCards
import Derived.OpenShut
import Derived.SevenTiedAt
set_option linter.unusedVariables false
set_option linter.unusedSimpArgs false
namespace Go.Proofs.YtbnnmnbidkpmcaaGreatDoor
set_option maxRecDepth 100000
open Go Go.Sym Go.Graft Go.Proofs.Tryz Go.ChangeShapes Go.WideShapes Go.ChangeAt Go.RowKit
theorem own : ownKnob Tryz.prog.godebug = none := by kernel_rfl
theorem laidOut : laidOutB Tryz.prog = true := by kernel_rfl
theorem cells3 : Tryz.prog.cellsOf 3 = 1 := by kernel_rfl
theorem cells9 : Tryz.prog.cellsOf 9 = 1 := by kernel_rfl
theorem cells22 : Tryz.prog.cellsOf 22 = 1 := by kernel_rfl
theorem cells24 : Tryz.prog.cellsOf 24 = 1 := by kernel_rfl
theorem cells39 : Tryz.prog.cellsOf 39 = 3 := by kernel_rfl
theorem bytes39 : Tryz.prog.bytesOf 39 = 40 := by kernel_rfl
structure GoodIt (x : It) : Prop where
  id : x.id.length ≤ reachBytes
  body : x.body.length ≤ reachBytes
theorem openIt : Opens Tryz.prog 39 (fun x : It => [sV x.id, iV x.kind, sV x.body]) GoodIt := by
  refine Opens.iso (Opens.struct Tryz.underlying39 (OpensF.cons rfl cells9 (Opens.str Tryz.underlying9) (OpensF.cons rfl cells3 (Opens.int Tryz.underlying3) (OpensF.cons rfl cells9 (Opens.str Tryz.underlying9) (OpensF.nil (by rw [cells39]; decide)))))) (fun x => ⟨x.1, x.2.1, x.2.2.1⟩) ?_
  rintro ⟨a, b, c, _⟩ ⟨h1, _, h3, _⟩
  exact ⟨⟨h1, h3⟩, rfl⟩
structure GoodSt (x : Bool × List It) : Prop where
  nl : x.1 = true → x.2 = []
  size : x.2.length ≤ 140737488351232
  it : ∀ y ∈ x.2, GoodIt y
theorem openSt : Opens Tryz.prog 24 (fun x : Bool × List It => [.sl x.1 3 (x.2.map It.pv)]) GoodSt := by
  refine Opens.iso (Opens.struct Tryz.underlying24 (OpensF.cons rfl cells22 (Opens.slice Tryz.underlying22 cells39 (by decide) openIt It.pv (fun _ => rfl)) (OpensF.nil (by rw [cells24]; decide)))) (fun x => x.1) ?_
  rintro ⟨⟨nl, l⟩, _⟩ ⟨⟨h1, h2, h3⟩, _⟩
  dsimp only at h1 h2 h3
  rw [bytes39] at h2
  refine ⟨⟨h1, ?_, h3⟩, rfl⟩
  simp only [reachBytes] at h2; dsimp only; omega
theorem openStA : OpensA Tryz.prog 24 (fun x : Bool × List It => stPV x.1 x.2) GoodSt := OpensA.struct Tryz.underlying24 openSt
theorem block_of_var {W : World} {n : String} {g : Nat} {cs : Array Value} (hg : Tryz.prog.globalNamed n = some g) (h : W.var? Tryz.prog n = some cs) : ∃ e f, W.heap[g]? = some (.cells cs e f) := by
  unfold World.var? at h
  rw [hg] at h
  simp only [Option.bind_some] at h
  split at h
  · rename_i c e f hh
    cases h
    exact ⟨e, f, hh⟩
  · cases h
theorem row_of_reads {W : World} {n : String} {g m : Nat} {t e : TypeId} {k : IntKind} {zs : List Int} (hg : Tryz.prog.globalNamed n = some g) (hty : (Tryz.prog.globals[g]?).map (·.type) = some t) (ht : Tryz.prog.underlying t = some (.array m e)) (he : Tryz.prog.underlying e = some (.int k)) (hce : Tryz.prog.cellsOf e = 1) (hct : Tryz.prog.cellsOf t = m)
    (h : Lib.VarReads Tryz.prog W n (.agg (zs.map fun z => .lit (.int k z)))) : ∃ v, W.heap[g]? = some v ∧ rowIs (zs.map fun z => .int k z) v := by
  obtain ⟨g', t', cs, fuel, p, hg', ht', hv, hd⟩ := h
  obtain rfl := Option.some.inj (hg.symm.trans hg')
  obtain rfl := Option.some.inj (hty.symm.trans ht')
  have h1 := Lib.cells_of_tab ht he hce hct hd
  obtain ⟨e, f, hh⟩ := block_of_var hg hv
  refine ⟨_, hh, e, f, ?_⟩
  rw [← h1]
theorem max_of_shape {w : World} {g : Nat} {t : TypeId} {zero : Array Value} (h : w.ShapedOpen Tryz.prog) (hg : g < Tryz.prog.globals.size)
    (h0 : ((begin Tryz.prog (fun _ _ => 0) default).world.heap[g]?).bind Obj.row? = some (zero, t)) (hz : zero.size = 1)
    (hb : Tryz.prog.buildable t = true) (hc : Tryz.prog.cellTypes Tryz.prog.depth t = some [t]) (hu : Tryz.prog.underlying t = some (.int .i64)) : ∃ v, w.heap[g]? = some v ∧ isInt v := by
  obtain ⟨cs, hh, hs, hr⟩ := h.1 g zero t hg h0
  obtain ⟨ts, hts, _, hall⟩ := hr hb
  rw [hc] at hts
  cases hts
  have h1 : 0 < cs.size := by omega
  obtain ⟨u, hu', hok⟩ := hall 0 cs[0] (by simp [h1])
  have : u = t := by simpa using hu'.symm
  subst this
  unfold Cell.ok at hok
  rw [hu] at hok
  have hc0 : cs[0]? = some cs[0] := by simp [h1]
  generalize cs[0] = v at *
  refine ⟨_, hh, ?_⟩
  cases v with
  | int k z =>
    have hk : k = .i64 := by
      cases k <;> first | rfl | simp at hok
    subst hk
    exact ⟨z, cs, _, _, rfl, hc0⟩
  | _ => simp at hok
theorem globs_of {W : World} (hL : laidMetH Tryz.prog Rows.storeRightsRow.laid W) (hsh : W.ShapedOpen Tryz.prog) : ∀ x ∈ Globs.gl Tryz.prog, ∃ v, W.heap[x.1]? = some v ∧ x.2 v := by
  rw [MakeChecks.laidMetH_plain _ _ _ (by kernel_rfl)] at hL
  have h1 : Lib.VarReads Tryz.prog W "graftage/ident.table" Rows.laid_graftage_ident_table := Lib.laidMet.reads hL (by simp [Rows.storeRightsRow])
  have h2 : Lib.VarReads Tryz.prog W "internal/strconv.uint64pow10" Rows.laid_internal_strconv_uint64pow10 := Lib.laidMet.reads hL (by simp [Rows.storeRightsRow])
  intro x hx
  have hx : x ∈ [(gMax, isInt), (gTable, rowIs (Go.Graft.keys.map fun k => .int .u32 (k.toNat : Int))), (gPow, rowIs (Lib.pow10Tab.map fun z => .int .u64 z))] := hx
  simp only [List.mem_cons, List.not_mem_nil, or_false] at hx
  rcases hx with rfl | rfl | rfl
  · exact max_of_shape hsh (of_decide_eq_true (by kernel_rfl)) (zero := #[.int .i64 0]) (t := 3) (by kernel_rfl) (by kernel_rfl) (by kernel_rfl) (by kernel_rfl) Tryz.underlying3
  · have e : (Rows.laid_graftage_ident_table : DataW Unit) = .agg ((Go.Graft.keys.map fun k => (k.toNat : Int)).map fun z => .lit (.int .u32 z)) := by kernel_rfl
    have e2 : (Go.Graft.keys.map fun k => Value.int .u32 (k.toNat : Int)) = ((Go.Graft.keys.map fun k => (k.toNat : Int)).map fun z => Value.int .u32 z) := by rw [List.map_map]; rfl
    rw [e] at h1
    show ∃ v, _ ∧ rowIs _ v
    rw [e2]
    exact row_of_reads (by kernel_rfl) (t := 159) (by kernel_rfl) Tryz.underlying159 Tryz.underlying142 (by kernel_rfl) (by kernel_rfl) h1
  · have e : (Rows.laid_internal_strconv_uint64pow10 : DataW Unit) = .agg (Lib.pow10Tab.map fun z => .lit (.int .u64 z)) := by kernel_rfl
    rw [e] at h2
    exact row_of_reads (by kernel_rfl) (t := 202) (by kernel_rfl) Tryz.underlying202 Tryz.underlying137 (by kernel_rfl) (by kernel_rfl) h2
theorem lifted_of {C : Checked} {os : Os} {H : Type} {enc : TypeId × Value → H} {f : FuncId} {fn : Func} {s : ChangeSpec} {conds : List PathCond} {apart fresh handsOn again : Bool} {X : World → Array Value → Prop}
    (hX : ∀ (w w' : World) (args : Array Value), w.heap = w'.heap → X w args → X w' args)
    (own : ownKnob C.prog.godebug = none) (started : os.Started) (noInit : C.prog.inits.idxOf? f = none) (hfn : C.prog.funcs[f]? = some fn)
    (witness : ∃ (w : World) (tape : Tape) (i : Input), w.os = os ∧ (w.forCall tape i).Shaped C.prog ∧ i.vars = [] ∧ Input.okWide C.prog (w.forCall tape i) .any w.heap.size f i ∧
      ((s.pre enc C.prog fn conds apart (w.forCall tape i).memory i.args ∧ X (w.forCall tape i).memory i.args) ∧ sizedMet enc C.prog fn (OpenSpec.ofChange s) apart (w.forCall tape i).memory i.args) ∧ ({} : Assume).holds C.prog (lone (Frame.enter C.prog f i.args .normal) [] (w.forCall tape i)))
    (contract : ∀ (W : World) (base : Nat) (args : Array Value) (ds gs : List (DataW H)) (before : List MemPlace),
      (∀ (j : Nat) t v, fn.params[j]? = some t → args[j]? = some v → Value.okWide C.prog W .any base t v) →
      DataW.Whole enc C.prog fn.params.toList s.vars apart W args.toList ds gs before →
      (DataW.weightsEach C.prog (fn.params.toList ++ s.plain.varTypes C.prog) (ds ++ gs)).all (· ≤ reachBytes) = true → X W args → W.ShapedOpen C.prog →
      Calls C.prog f args W fun e W' => ∃ v, e = .returned v ∧ s.post enc C.prog fn apart fresh handsOn again W args v W') :
    ReturnsInHanded {} C os f .any (fun w args => (s.pre enc C.prog fn conds apart w args ∧ X w args) ∧ sizedMet enc C.prog fn (OpenSpec.ofChange s) apart w args) (s.post enc C.prog fn apart fresh handsOn again) := by
  refine returnsInHanded_of_calls own started noInit witness ?_
  intro w tape i _ hsh _ hok hpre _
  obtain ⟨_, _, _, fn', hfn', _, _, _, _, hval⟩ := hok
  have e : fn' = fn := Option.some.inj (hfn'.symm.trans hfn)
  subst e
  obtain ⟨⟨⟨ds, gs, before, hw, hc⟩, hx⟩, hz⟩ := hpre
  have hw' := DataW.Whole.of_heap (w' := w.forCall tape i) (by rfl) hw
  refine (contract (w.forCall tape i) w.heap.size i.args ds gs before hval hw' (hz.weights hw) (hX _ _ _ (by rfl) hx) hsh).mono fun e W' ⟨v, he, hp⟩ => ?_
  subst he
  exact ChangeSpec.post_blind hp
end Go.Proofs.YtbnnmnbidkpmcaaGreatDoor
namespace Go.Proofs.YtbnnmnbidkpmcaaGreatDoor
open Go Go.Sym Go.Graft Go.Proofs.Tryz Go.ChangeShapes Go.WideShapes Go.ChangeAt Go.RowKit
set_option maxRecDepth 100000
theorem opensRights : OpensL Tryz.prog [24] (fun (x : (Bool × List It) × Unit) => [stPV x.1.1 x.1.2]) (fun x => GoodSt x.1 ∧ True) := OpensL.cons openStA OpensL.nil
theorem ctrRights : ∀ x, ((fun (x : (Bool × List It) × Unit) => GoodSt x.1 ∧ True)) x → Ctr Tryz.prog 3 ((fun (x : (Bool × List It) × Unit) => [stPV x.1.1 x.1.2]) x) [] (bV true) [] [] := fun x _ => cStoreRights x.1.1 x.1.2
theorem isRights : IsLaw Rows.storeRightsSpec 1 := ⟨rfl, fun H ds h => by
    match ds, h with
    | [d1], _ => rfl⟩
theorem liftedRights (os : Os) (started : os.Started) (H : Type) (enc : TypeId × Value → H) :
    ReturnsInHanded {} Tryz.checked os 3 .any (fun w args => (Rows.storeRightsSpec.pre enc Tryz.prog Tryz.f3 Rows.storeRightsRow.domain false w args ∧ laidMetH Tryz.prog Rows.storeRightsRow.laid w) ∧ sizedMet enc Tryz.prog Tryz.f3 (OpenSpec.ofChange Rows.storeRightsSpec) false w args)
      (Rows.storeRightsSpec.post enc Tryz.prog Tryz.f3 false true false false) := by
  refine lifted_of (C := Tryz.checked) (X := fun w _ => laidMetH Tryz.prog Rows.storeRightsRow.laid w) (fun _ _ _ hh h => h.of_heap hh) own started (by kernel_rfl) Tryz.func3
    (ChangeSpec.witness_shaped (enc := enc) (C := Tryz.checked) (os := os) (X := fun w _ => laidMetH Tryz.prog Rows.storeRightsRow.laid w) false (World.laidAll Tryz.prog os Rows.storeRightsRow.laid) #[.agg #[.slice none 0 0]] 8 (World.laidAll_os _ _ _)
      (World.shaped_of_ZipB (by kernel_rfl) (by kernel_rfl)) (by kernel_rfl) (by kernel_rfl) (by kernel_rfl)
      (by rw [MakeChecks.laidMetH_plain _ _ _ (by kernel_rfl)]; exact laidMet_laidAll _ (by kernel_rfl) (by kernel_rfl))) ?_
  intro W base args ds gs before hval hW hz hL hsh
  exact law_calls (P := Tryz.prog) (params := [24]) Tryz.params3 (by kernel_rfl) Tryz.underlying4 isRights laidOut (by kernel_rfl) opensRights ctrRights W (globs_of hL hsh) base args ds gs before hval hW hz
theorem storeRights_row : Rows.StoreRightsSaid :=
  OpenClaim.holds_of_wide 3 Tryz.f3 rfl rfl rfl rfl rfl rfl rfl ⟨rfl, rfl, rfl, rfl, rfl⟩ rfl rfl rfl rfl rfl (by kernel_rfl) Tryz.func3 (by kernel_rfl)
    (of_decide_eq_true (by kernel_rfl)) (by unfold Func.isWrapper; first | (rw [if_pos (by decide +kernel)]; kernel_rfl) | (rw [if_neg (by decide +kernel)]; exact ⟨rfl, rfl⟩))
    (fun os started H enc _ => liftedRights os started H enc)
theorem storeRights_holds : Rows.StoreRightsCardSaid :=
  Claim7.holds_tied_plain_at .later [] [.data, .data, .data, .data, .sentinel, .sentinel, .data, .pinned] true (true, "9e54dca1ea43922e5e6cb49179b4ac4e8da0e10883ad77a8c69e33fb19bdce23") true storeRights_row (fun _ h => by cases h) (by kernel_rfl) (fun _ h => by cases h) storeRights_row_tie rfl ⟨rfl, rfl⟩ (by kernel_rfl) rfl
    (fun f fn hf hfn => by
      obtain rfl : f = 3 := Option.some.inj ((show Tryz.prog.funcNamed "graftage/graftagelaw17.StoreRights" = some 3 by kernel_rfl).symm.trans hf) |>.symm
      obtain rfl : fn = Tryz.f3 := (Option.some.inj (Tryz.func3.symm.trans hfn)).symm
      exact ⟨by kernel_rfl, fun j t ht => by
        rw [Tryz.params3] at ht
        have hm : t ∈ [24] := by simpa using Array.mem_of_getElem? ht
        have hall : ([24].all fun u => !Tryz.prog.wantsStandIn u) = true := by kernel_rfl
        exact (show Tryz.prog.wantsStandIn t = false by simpa using List.all_eq_true.1 hall t hm)⟩)
    (by kernel_rfl)
end Go.Proofs.YtbnnmnbidkpmcaaGreatDoor
