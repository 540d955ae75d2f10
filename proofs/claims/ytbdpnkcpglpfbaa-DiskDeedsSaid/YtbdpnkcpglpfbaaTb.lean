/- A part of the proof: Tb. -/
import Derived.Test.YtbdpnkcpglpfbaaTable
import Derived.IntWalk
namespace Go.Sym
/-- The binary search of the library. -/
def bs (p : Nat → Bool) (lo hi : Nat) : Nat :=
  if h : lo < hi then
    if p ((lo + hi) / 2) then bs p lo ((lo + hi) / 2) else bs p ((lo + hi) / 2 + 1) hi
  else lo
  termination_by hi - lo
  decreasing_by all_goals omega
theorem half (a b : Nat) (h : a + b ≤ 9223372036854775807) : IntKind.i64.wrap ((IntKind.u64.wrap (↑a + ↑b)).fdiv (2 ^ (min (1 : Int).toNat IntKind.u64.bits))) = ((a + b) / 2 : Nat) := by
  have : min (1 : Int).toNat IntKind.u64.bits = 1 := by decide
  rw [this, IntWalk.u64_in (↑a + ↑b) (by omega)]
  have h2 : ((↑a + ↑b : Int)).fdiv (2 ^ 1) = ((a + b) / 2 : Nat) := by
    rw [Int.fdiv_eq_ediv_of_nonneg _ (by omega)]; omega
  rw [h2, IntWalk.i64_in _ (by omega)]
end Go.Sym
namespace Go.Proofs.Try
open Go Go.Sym

set_option maxHeartbeats 400000 in
theorem search (n : Nat) (hn : n ≤ 4611686018427387903) (g : FuncId) (caps : List PV) (hc : plainL caps = true) (p : Nat → Bool)
    (hp : ∀ i : Nat, i < n → Ctr prog g (iV i :: caps) [] (bV (p i)) [] []) :
    Ctr prog 47 [iV n, .clo (.func g) [] caps] [] (iV (bs p 0 n)) [] [] := by
  have hu : usesOnlyL [] caps = true := plain_uses_all.2 _ hc
  refine Ctr.enter tblOk func47 rfl (by decide) rfl (nt := 26) rfl rfl rfl rfl ?_
  refine Trip.seq ?_
  apply Trip.reg tblOk
  · repeat' (first | exact rfl | exact Side.mk (by omega) | constructor)
  · exact rfl
  apply Trip.regk ⟨[(1, .clo (.func g) [] caps), (5, iV ((0 : Nat) : Int)), (6, iV n)], []⟩ tblOk
  · repeat' (first | exact rfl | exact Side.mk (by omega) | constructor)
  · exact rfl
  · apply Weak.keep
    · exact rfl
    · repeat' (first | exact rfl | exact Side.mk (by omega) | constructor)
    · repeat' (first | exact rfl | exact Side.mk (by omega) | constructor)
    · simp [usesT, usesOnly, usesOnlyL, hu]
    · repeat' (first | exact rfl | exact Side.mk (by omega) | constructor)
  refine Trip.seq ?_
  refine Trip.block ?_
  apply Trip.loop (ι := Nat × Nat) (fun x => ⟨[(1, .clo (.func g) [] caps), (5, iV x.1), (6, iV x.2)], []⟩) (fun x => x.1 ≤ x.2 ∧ x.2 ≤ n ∧ bs p x.1 x.2 = bs p 0 n) (fun x => x.2 - x.1) ⟨0, n⟩ ⟨by simp, by simp, rfl⟩
  · exact fun fr h L a w hR => ⟨L, hR⟩
  rintro ⟨a, b⟩ ⟨h1, h2, h3⟩
  dsimp only at h1 h2 h3 ⊢
  refine Trip.seq ?_
  refine Trip.seq ?_
  apply Trip.reg tblOk
  · repeat' (first | exact rfl | exact Side.mk (by omega) | constructor)
  · exact rfl
  apply Trip.cond (.tmp rfl)
  · intro hlt
    have hlt : a < b := by simpa using hlt
    refine Trip.skip ?_
    refine Trip.block ?_
    apply Trip.regk ⟨[(1, .clo (.func g) [] caps), (5, iV a), (6, iV b), (7, iV ((a + b) / 2 : Nat))], []⟩ tblOk
    · repeat' (first | exact rfl | exact Side.mk (by omega) | constructor)
    · exact rfl
    · apply Weak.keep
      · exact rfl
      · repeat' (first | exact rfl | exact vI (half a b (by omega)) | exact Side.mk (by omega) | constructor)
      · repeat' (first | exact rfl | exact Side.mk (by omega) | constructor)
      · simp [usesT, usesOnly, usesOnlyL, hu]
      · repeat' (first | exact rfl | exact Side.mk (by omega) | constructor)
    refine Trip.seq ?_
    apply Trip.reg tblOk
    · repeat' (first | exact rfl | (apply Rule.sem; intro hγ; apply F_call (σ := []) (B := []) (news := []) hγ (hspec := hp ((a + b) / 2) (by omega)) (hro := .inl rfl)) | exact conv_plain_all.2 _ hc | constructor)
    · exact rfl
    apply Trip.cond (.tmp rfl)
    · intro hb
      apply Trip.reg tblOk
      · repeat' (first | exact rfl | exact Side.mk (by omega) | constructor)
      · exact rfl
      have hb : p ((a + b) / 2) = false := by simpa using hb
      refine ⟨⟨(a + b) / 2 + 1, b⟩, ⟨?_, h2, ?_⟩, ?_, ?_⟩
      · dsimp only; omega
      · dsimp only; rw [← h3]; rw [bs.eq_def p a b, dif_pos hlt, hb]; rfl
      · dsimp only; omega
      · apply Weak.keep
        · exact rfl
        · repeat' (first | exact rfl | (refine vI ?_; dsimp only; omega) | constructor)
        · repeat' (first | exact rfl | exact Side.mk (by omega) | constructor)
        · simp [usesT, usesOnly, usesOnlyL, hu]
        · repeat' (first | exact rfl | exact Side.mk (by omega) | constructor)
    · intro hb
      have hb : p ((a + b) / 2) = true := by simpa using hb
      apply Trip.reg tblOk
      · repeat' (first | exact rfl | exact Side.mk (by omega) | constructor)
      · exact rfl
      refine ⟨⟨a, (a + b) / 2⟩, ⟨?_, ?_, ?_⟩, ?_, ?_⟩
      · dsimp only; omega
      · dsimp only; omega
      · dsimp only; rw [← h3]; rw [bs.eq_def p a b, dif_pos hlt, hb]; rfl
      · dsimp only; omega
      · apply Weak.keep
        · exact rfl
        · repeat' (first | exact rfl | exact Side.mk (by omega) | constructor)
        · repeat' (first | exact rfl | exact Side.mk (by omega) | constructor)
        · simp [usesT, usesOnly, usesOnlyL, hu]
        · repeat' (first | exact rfl | exact Side.mk (by omega) | constructor)
  · intro hge
    have hge : a = b := by simp at hge; omega
    subst hge
    refine Trip.exit ?_
    refine Trip.seq ?_
    apply Trip.reg tblOk
    · repeat' (first | exact rfl | exact Side.mk (by omega) | constructor)
    · exact rfl
    refine Trip.ret ?_
    have he : (a : Int) = bs p 0 n := by rw [← h3, bs.eq_def, dif_neg (by omega)]
    rw [← he]
    refine ⟨_, _, [], [], [], [], .cons rfl .nil, .one, .nil, .nil, rfl, rfl, rfl, .nil, .nil, ?_⟩
    repeat' (first | exact rfl | exact Side.mk (by omega) | constructor)
end Go.Proofs.Try
