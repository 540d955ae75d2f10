/- The logic 'Sym': calls under a guard: no object comes or goes. -/
import Derived.Test.YtbdpnkcpglpfbaaSymV
namespace Go.Sym
open Go.RowKit

section
variable {P : Program} {T : Tbl} {S : St} {γ : Bool}
variable {ty : Nat} {pos : String} {aft : Array Edge} {g : Option (Nat × Bool)}

theorem F_call0 (hγ : γ = true) {dst : Option Nat} {x : Operand} {args : Array Operand} {ats : Array TypeId} {f : FuncId} {first caps ps qs : List PV} {r r2 : PV} {B : List Nat}
    (hx : OpdO γ S x (.clo (.func f) first caps)) (hargs : OpdsO γ S args.toList ps) (hspec : Ctr P f qs [] r [] [])
    (hconv : ConvL S (fwd PN []) B (first ++ (ps ++ caps)) qs) (hσB : B.all (fun o => !([] : List Nat).contains o) = true) (hcr : ConvP ⟨[], []⟩ (bwd PN [] ++ bwd FN []) [] r r2)
    (hro : Side (B = [] ∨ (roFree r = true ∧ ([] : List SObj).all SObj.roFree = true ∧ ([] : List SObj).all SObj.roFree = true))) :
    FStep P ⟨dst, .call { callee := .value x, args := args, argTypes := ats }, ty, pos, aft, g⟩ S ([] ++ (B ++ [])) ⟨r2, []⟩ :=
  F_call (σ := []) (news := []) hγ hx hargs hspec hconv .nil .nil .nil rfl rfl hσB rfl rfl .nil .nil hcr hro
end
end Go.Sym
