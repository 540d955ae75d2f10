/- The logic 'Sym': contracts of functions, and calls. -/
import Derived.Test.YtbdpnkcpglpfbaaSymL
namespace Go.Sym
open Go.RowKit

def named : Nat → List SObj → List (Nat × SObj)
  | _, [] => []
  | k, o :: r => (k, o) :: named (k + 1) r
def PN : Nat := 100000
def FN : Nat := 200000

theorem look_named : ∀ (l : List SObj) (k n : Nat), look (named k l) n = if k ≤ n then l[n - k]? else none
  | [], k, n => by simp [named, look]
  | o :: r, k, n => by
    simp only [named]
    rw [look_cons, look_named r (k + 1) n]
    by_cases h1 : k = n
    · subst h1; simp
    · by_cases h2 : k ≤ n
      · rw [if_neg h1, if_pos h2, if_pos (by omega), show n - k = (n - (k + 1)) + 1 by omega, List.getElem?_cons_succ]
      · rw [if_neg h1, if_neg h2, if_neg (by omega)]

def callable (P : Program) (f : FuncId) : Prop := ∃ fn, P.funcs[f]? = some fn ∧ fn.body.isSome = true ∧ (fn.name == "runtime.NumGoroutine") = false

/-- What a function does: called with these values, in a memory where the objects that are handed over are these, it returns this, the objects are then these, and these are new and the caller's own. -/
def Ctr (P : Program) (f : FuncId) (args : List PV) (objs : List SObj) (r : PV) (objs' fresh : List SObj) : Prop :=
  callable P f ∧
  ∀ (fr : Fr) (w : World) (vals : List Value), fr.w0 = w → RM fr ⟨[], named PN objs⟩ fr.L0 w → RepL w (fr.F fr.L0) fr.L0 args vals →
    Calls P f vals.toArray w fun e w' => ∃ v L', e = .returned v ∧ objs'.length = objs.length ∧ RM fr ⟨[], named PN objs' ++ named FN fresh⟩ L' w' ∧ Rep w' (fr.F L') L' r v

inductive SConv (S : St) (σ : List (Nat × Nat)) (B : List Nat) : SObj → SObj → Prop
  | box {cs ds : List PV} : ConvL S σ B cs ds → SConv S σ B (.box cs) (.box ds)
  | arr {sz : Nat} {nl : Bool} {es : List PV} : Side (plainL es = true) → SConv S σ B (.arr sz nl es) (.arr sz nl es)
inductive SConvs (S : St) (σ : List (Nat × Nat)) (B : List Nat) : List SObj → List SObj → Prop
  | nil : SConvs S σ B [] []
  | cons {o o' : SObj} {r r' : List SObj} : SConv S σ B o o' → SConvs S σ B r r' → SConvs S σ B (o :: r) (o' :: r')

inductive Objs (S : St) : List Nat → List SObj → Prop
  | nil : Objs S [] []
  | cons {n : Nat} {ns : List Nat} {o : SObj} {os : List SObj} : S.obj n = some o → Objs S ns os → Objs S (n :: ns) (o :: os)
inductive NoObjs (S : St) : List Nat → Prop
  | nil : NoObjs S []
  | cons {n : Nat} {ns : List Nat} : S.obj n = none → NoObjs S ns → NoObjs S (n :: ns)

def fwd : Nat → List Nat → List (Nat × Nat)
  | _, [] => []
  | k, n :: r => (n, k) :: fwd (k + 1) r
def bwd : Nat → List Nat → List (Nat × Nat)
  | _, [] => []
  | k, n :: r => (k, n) :: bwd (k + 1) r
def zipO : List Nat → List SObj → List (Nat × SObj)
  | n :: ns, o :: os => (n, o) :: zipO ns os
  | _, _ => []

/- Nothing in it lies in memory that is only read. -/
mutual
def roFree : PV → Bool
  | .v _ => true
  | .sl _ _ es => es.isEmpty
  | .rp _ => false
  | .agg cs => roFreeL cs
  | .tup cs => roFreeL cs
  | .clo _ f c => roFreeL f && roFreeL c
  | .ifc _ x => roFree x
  | .ref _ _ => true
  | .eref _ _ _ _ => true
  | .osl _ _ _ _ => true
  | .dead => true
  | .opt _ _ => false
def roFreeL : List PV → Bool
  | [] => true
  | c :: cs => roFree c && roFreeL cs
end

def distinct : List Nat → Bool
  | [] => true
  | n :: r => !r.contains n && distinct r
theorem distinct_nodup : ∀ {l : List Nat}, distinct l = true → l.Nodup
  | [], _ => List.nodup_nil
  | n :: r, h => by
    simp only [distinct, Bool.and_eq_true, Bool.not_eq_true'] at h
    exact List.nodup_cons.2 ⟨by have := h.1; simpa using this, distinct_nodup h.2⟩

theorem look_fwd : ∀ (l : List Nat) (k n m : Nat), look (fwd k l) n = some m → ∃ i, l[i]? = some n ∧ m = k + i
  | [], k, n, m, h => by simp [fwd, look] at h
  | x :: r, k, n, m, h => by
    simp only [fwd] at h
    rw [look_cons] at h
    split at h
    · rename_i e; subst e; simp at h; exact ⟨0, by simp, by omega⟩
    · obtain ⟨i, h1, h2⟩ := look_fwd r (k + 1) n m h
      exact ⟨i + 1, by simpa using h1, by omega⟩
theorem look_fwd_mem : ∀ {l : List Nat}, l.Nodup → ∀ (k i n : Nat), l[i]? = some n → look (fwd k l) n = some (k + i)
  | [], _, k, i, n, h => by simp at h
  | x :: r, hd, k, i, n, h => by
    rw [List.nodup_cons] at hd
    simp only [fwd]
    rw [look_cons]
    cases i with
    | zero => simp at h; simp [h]
    | succ i =>
      simp at h
      have hne : x ≠ n := by rintro rfl; exact hd.1 (List.mem_of_getElem? h)
      rw [if_neg hne, look_fwd_mem hd.2 (k + 1) i n h]
      congr 1; omega
theorem look_bwd : ∀ (l : List Nat) (k n m : Nat), look (bwd k l) n = some m → k ≤ n ∧ l[n - k]? = some m
  | [], k, n, m, h => by simp [bwd, look] at h
  | x :: r, k, n, m, h => by
    simp only [bwd] at h
    rw [look_cons] at h
    split at h
    · rename_i e; subst e; simp at h; simp [h]
    · obtain ⟨h1, h2⟩ := look_bwd r (k + 1) n m h
      exact ⟨by omega, by rw [show n - k = (n - (k + 1)) + 1 by omega]; simpa using h2⟩
theorem look_bwd_mem : ∀ {l : List Nat} {k i n : Nat}, l[i]? = some n → look (bwd k l) (k + i) = some n
  | [], _, i, n, h => by simp at h
  | x :: r, k, 0, n, h => by simp at h; simp [bwd, look_cons, h]
  | x :: r, k, i + 1, n, h => by
    simp only [bwd]
    rw [look_cons, if_neg (by omega), show k + (i + 1) = k + 1 + i by omega]
    exact look_bwd_mem (by simpa using h)

theorem Objs.get {S : St} : ∀ {ns : List Nat} {os : List SObj}, Objs S ns os → ns.length = os.length ∧ ∀ (i : Nat) n, ns[i]? = some n → ∃ o, os[i]? = some o ∧ S.obj n = some o
  | _, _, .nil => ⟨rfl, fun i n h => by simp at h⟩
  | _, _, .cons h1 h2 => by
    obtain ⟨k1, k2⟩ := h2.get
    refine ⟨by simp [k1], fun i n h => ?_⟩
    cases i with
    | zero => simp at h; subst h; exact ⟨_, rfl, h1⟩
    | succ i => simpa using k2 i n (by simpa using h)
theorem NoObjs.get {S : St} : ∀ {ns : List Nat}, NoObjs S ns → ∀ n ∈ ns, S.obj n = none
  | _, .nil, n, h => by simp at h
  | _, .cons h1 h2, n, h => by
    rcases List.mem_cons.1 h with rfl | h
    · exact h1
    · exact h2.get n h
theorem SConvs.get {S : St} {σ : List (Nat × Nat)} {B : List Nat} : ∀ {os os' : List SObj}, SConvs S σ B os os' → os.length = os'.length ∧ ∀ (i : Nat) o', os'[i]? = some o' → ∃ o, os[i]? = some o ∧ SConv S σ B o o'
  | _, _, .nil => ⟨rfl, fun i n h => by simp at h⟩
  | _, _, .cons h1 h2 => by
    obtain ⟨k1, k2⟩ := h2.get
    refine ⟨by simp [k1], fun i n h => ?_⟩
    cases i with
    | zero => simp at h; subst h; exact ⟨_, rfl, h1⟩
    | succ i => simpa using k2 i n (by simpa using h)

theorem look_zipO : ∀ {ns : List Nat} {os : List SObj}, ns.Nodup → ns.length = os.length → ∀ (n : Nat) (o : SObj), look (zipO ns os) n = some o → ∃ i : Nat, ns[i]? = some n ∧ os[i]? = some o
  | [], [], _, _, n, o, h => by simp [zipO, look] at h
  | [], _ :: _, _, hl, _, _, _ => by simp at hl
  | _ :: _, [], _, hl, _, _, _ => by simp at hl
  | x :: ns, y :: os, hd, hl, n, o, h => by
    rw [List.nodup_cons] at hd
    simp only [zipO] at h
    rw [look_cons] at h
    split at h
    · rename_i e; subst e; simp at h; subst h; exact ⟨0, by simp, by simp⟩
    · obtain ⟨i, h1, h2⟩ := look_zipO hd.2 (by simpa using hl) n o h
      exact ⟨i + 1, by simpa using h1, by simpa using h2⟩
theorem look_zipO_mem : ∀ {ns : List Nat} {os : List SObj}, ns.length = os.length → ∀ (n : Nat), n ∈ ns → ∃ o, look (zipO ns os) n = some o
  | [], _, _, n, h => by simp at h
  | _ :: _, [], hl, _, _ => by simp at hl
  | x :: ns, y :: os, hl, n, h => by
    simp only [zipO]
    rw [look_cons]
    by_cases e : x = n
    · exact ⟨y, by simp [e]⟩
    · obtain ⟨o, ho⟩ := look_zipO_mem (os := os) (by simpa using hl) n (by rcases List.mem_cons.1 h with h | h; exact absurd h.symm e; exact h)
      exact ⟨o, by rw [if_neg e]; exact ho⟩
theorem look_zipO_none {ns : List Nat} : ∀ {os : List SObj} {n : Nat}, n ∉ ns → look (zipO ns os) n = none := by
  induction ns with
  | nil => intro os n _; rfl
  | cons x ns ih =>
    intro os n h
    cases os with
    | nil => rfl
    | cons y os =>
      simp at h
      simp only [zipO]
      rw [look_cons, if_neg (fun e => h.1 e.symm)]
      exact ih h.2

section
variable {F F' : Nat → Prop} {w : World} {L L' : LMap}

theorem ro_rep_all : (∀ {L p x}, Rep w F L p x → roFree p = true → Rep w F' L p x) ∧ (∀ {L p x}, RepL w F L p x → roFreeL p = true → RepL w F' L p x) := by
  have c : ∀ {L p x}, Rep w F L p x → roFree p = true → Rep w F' L p x := fun {L p x} h => by
    refine @Rep.rec w F (fun L p x _ => roFree p = true → Rep w F' L p x) (fun L p x _ => roFreeL p = true → RepL w F' L p x) (fun _ _ _ _ => True) (fun _ _ _ _ _ => True) ?_ ?_ ?_ ?_ ?_ ?_ ?_ ?_ ?_ ?_ ?_ ?_ ?_ ?_ ?_ ?_ ?_ ?_ ?_ ?_ L p x h
    · exact fun L x _ => .v L x
    · exact fun _ ih hp => .agg (ih (by simpa [roFree] using hp))
    · exact fun _ ih hp => .tup (ih (by simpa [roFree] using hp))
    · intro L sz es b off n cap h1 h2 h3 _ hp
      simp [roFree] at hp
      subst hp
      exact .sl h1 h2 (.nil _ _ _)
    · exact fun L sz _ => .slNil L sz
    · exact fun L sz a _ => .slE L sz a
    · exact fun _ _ hp => by simp [roFree] at hp
    · exact fun h1 h2 h3 _ => .ref h1 h2 h3
    · exact fun h1 h2 h3 _ => .eref h1 h2 h3
    · exact fun h1 h2 h3 _ => .osl h1 h2 h3
    · exact fun _ _ i1 i2 hp => by simp [roFree] at hp; exact .clo (i1 hp.1) (i2 hp.2)
    · exact fun _ ih hp => .ifc (ih (by simpa [roFree] using hp))
    · exact fun _ _ _ hp => by simp [roFree] at hp
    · exact fun L x _ => .dead L x
    · exact fun L _ => .nil L
    · exact fun _ _ i1 i2 hp => by simp [roFreeL] at hp; exact .cons (i1 hp.1) (i2 hp.2)
    · exact fun _ _ => trivial
    · exact fun _ _ _ _ _ _ => trivial
    · exact fun _ _ _ => trivial
    · exact fun _ _ _ _ _ => trivial
  refine ⟨c, fun {L p x} h => ?_⟩
  induction p generalizing x with
  | nil => cases h; exact fun _ => .nil _
  | cons d ds ih => cases h with | cons g1 g2 => exact fun hp => by simp [roFreeL] at hp; exact .cons (c g1 hp.1) (ih g2 hp.2)

def SObj.roFree : SObj → Bool
  | .box cs => roFreeL cs
  | .arr _ _ es => roFreeL (cellsOf es)
  | .gone => true
  | .arrc _ _ es _ => roFreeL (cellsOf es)

/-- Back from a call: names turn, and what the caller may write stays out of what came back. -/
theorem back_rep_all {σ : List (Nat × Nat)} (hσ : ∀ o o', look σ o = some o' → ∀ l, L o = some l → L' o' = some l) :
    (∀ {p q}, ConvP ⟨[], []⟩ σ [] p q → ∀ x, Rep w F L p x → ((∀ b, ¬ F b → ¬ F' b) ∨ roFree p = true) → Rep w F' L' q x) ∧ (∀ {p q}, ConvL ⟨[], []⟩ σ [] p q → ∀ x, RepL w F L p x → ((∀ b, ¬ F b → ¬ F' b) ∨ roFreeL p = true) → RepL w F' L' q x) := by
  have ro : ∀ {p : PV} {x : Value}, Rep w F L p x → ((∀ b, ¬ F b → ¬ F' b) ∨ roFree p = true) → Sym.plain p = true → Rep w F' L' p x := fun h hh hp => by
    rcases hh with hF | hr
    · exact (h.plain hp L').mono (fun b off x hx hn => ⟨hx, hF b hn⟩) (LExt.refl _)
    · exact (ro_rep_all.1 h hr).plain hp L'
  have c : ∀ {p q}, ConvP ⟨[], []⟩ σ [] p q → ∀ x, Rep w F L p x → ((∀ b, ¬ F b → ¬ F' b) ∨ roFree p = true) → Rep w F' L' q x := fun {p q} h => by
    refine @ConvP.rec ⟨[], []⟩ σ [] (fun p q _ => ∀ x, Rep w F L p x → ((∀ b, ¬ F b → ¬ F' b) ∨ roFree p = true) → Rep w F' L' q x) (fun p q _ => ∀ x, RepL w F L p x → ((∀ b, ¬ F b → ¬ F' b) ∨ roFreeL p = true) → RepL w F' L' q x) ?_ ?_ ?_ ?_ ?_ ?_ ?_ ?_ ?_ ?_ ?_ ?_ ?_ ?_ ?_ ?_ ?_ ?_ p q h
    · exact fun x hx hh => ro hx hh rfl
    · exact fun _ ih x hx hh => by cases hx with | agg hx => exact .agg (ih _ hx (hh.imp id fun h => by simpa [roFree] using h))
    · exact fun _ ih x hx hh => by cases hx with | tup hx => exact .tup (ih _ hx (hh.imp id fun h => by simpa [roFree] using h))
    · exact fun x hx hh => ro hx hh rfl
    · exact fun x hx hh => ro hx hh rfl
    · exact fun hl x hx _ => by cases hx with | ref g1 g2 g3 => exact .ref (hσ _ _ hl _ g1) g2 g3
    · exact fun hl x hx _ => by cases hx with | eref g1 g2 g3 => exact .eref (hσ _ _ hl _ g1) g2 g3
    · exact fun hl x hx _ => by cases hx with | osl g1 g2 g3 => exact .osl (hσ _ _ hl _ g1) g2 g3
    · exact fun _ _ i1 i2 x hx hh => by cases hx with | clo g1 g2 => exact .clo (i1 _ g1 (hh.imp id fun h => by simp [roFree] at h; exact h.1)) (i2 _ g2 (hh.imp id fun h => by simp [roFree] at h; exact h.2))
    · exact fun _ ih x hx hh => by cases hx with | ifc g1 => exact .ifc (ih _ g1 (hh.imp id fun h => by simpa [roFree] using h))
    · exact fun h1 => by simp at h1
    · exact fun h1 => by simp at h1
    · exact fun h1 => by simp at h1
    · exact fun x _ _ => .dead _ _
    · exact fun x hx _ => by have := hx.inv_v; subst this; exact .slNil _ _
    · exact fun x hx _ => by cases hx with | slNil => exact .v _ _
    · exact fun x hx _ => by cases hx; exact .nil _
    · exact fun _ _ i1 i2 x hx hh => by cases hx with | cons g1 g2 => exact .cons (i1 _ g1 (hh.imp id fun h => by simp [roFreeL] at h; exact h.1)) (i2 _ g2 (hh.imp id fun h => by simp [roFreeL] at h; exact h.2))
  refine ⟨c, fun {p q} h => ?_⟩
  induction q generalizing p with
  | nil => cases h; exact fun x hx _ => by cases hx; exact .nil _
  | cons d ds ih => cases h with | cons g1 g2 => exact fun x hx hh => by cases hx with | cons k1 k2 => exact .cons (c g1 _ k1 (hh.imp id fun h => by simp [roFreeL] at h; exact h.1)) (ih g2 _ k2 (hh.imp id fun h => by simp [roFreeL] at h; exact h.2))
end
end Go.Sym
