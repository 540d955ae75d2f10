/- does and should: one deed, by the program and by the reference. -/
import Derived.Test.YtbdpnkcpglpfbaaTv
namespace Go.Proofs.Try
open Go Go.Sym

structure Deed where
  kind : Int
  left : Int
  name : List UInt8
  data : List UInt8
  into : List UInt8
  kn : Bool
  keep : List Int
  deriving Inhabited
def Deed.pv (x : Deed) : PV := .agg [iV x.kind, iV x.left, sV x.name, sV x.data, sV x.into, .sl x.kn 1 (x.keep.map iV)]
def does (d : Disk) (x : Deed) : Disk × Int :=
  if x.kind = 1 then wr d x.name x.data false else if x.kind = 2 then wr d x.name x.data true else if x.kind = 3 then sync d x.name else if x.kind = 4 then move d x.name x.into else if x.kind = 5 then drop d x.name else (crash d x.keep x.left, 0)
def should (d : Disk) (x : Deed) : Disk × Int :=
  if x.kind = 1 then rput d x.name x.data else if x.kind = 2 then rappend d x.name x.data else if x.kind = 3 then rsync d x.name else if x.kind = 4 then rmove d x.name x.into else if x.kind = 5 then rdrop d x.name else (crash d x.keep x.left, 0)

set_option maxRecDepth 4000 in
set_option maxHeartbeats 400000 in
theorem cDoes (d : Disk) (x : Deed) (hd : d.Ok) (hs : ∀ f ∈ d.fs, f.data.length + x.data.length ≤ 9223372036854775807) :
    Ctr prog 16 [d.pv, x.pv] [] (.tup [(does d x).1.pv, iV (does d x).2]) [] [] := by
  have c0 := cPut d x.name x.data hd hs
  have c1 := cAppend d x.name x.data hd hs
  have c2 := cSync d x.name hd
  have c3 := cMove d x.name x.into hd
  have c4 := cDrop d x.name hd
  have c5 := cCrash d x.kn x.keep x.left hd.size
  have hg : does d x = if x.kind = 1 then wr d x.name x.data false else if x.kind = 2 then wr d x.name x.data true else if x.kind = 3 then sync d x.name else if x.kind = 4 then move d x.name x.into else if x.kind = 5 then drop d x.name else (crash d x.keep x.left, 0) := rfl
  generalize wr d x.name x.data false = r0 at *
  generalize wr d x.name x.data true = r1 at *
  generalize sync d x.name = r2 at *
  generalize move d x.name x.into = r3 at *
  generalize drop d x.name = r4 at *
  generalize crash d x.keep x.left = r5 at *
  obtain ⟨⟨n0, f0, l0, o0⟩, e0⟩ := r0
  obtain ⟨⟨n1, f1, l1, o1⟩, e1⟩ := r1
  obtain ⟨⟨n2, f2, l2, o2⟩, e2⟩ := r2
  obtain ⟨⟨n3, f3, l3, o3⟩, e3⟩ := r3
  obtain ⟨⟨n4, f4, l4, o4⟩, e4⟩ := r4
  obtain ⟨n5, f5, l5, o5⟩ := r5
  obtain ⟨nl, fs, left, off⟩ := d
  obtain ⟨kind, cleft, name, data, into, kn, keep⟩ := x
  dsimp only at *
  refine Ctr.enter tblOk func16 rfl (by decide) rfl (nt := 60) rfl rfl rfl rfl ?_
  refine Trip.seq ?_
  apply Trip.reg tblOk
  · repeat' (first | exact rfl | exact idx_map _ _ _ (by show _ < _; first | omega | (simp only [List.length_map] at *; omega)) | ((first | with_reducible refine bok ?_ | with_reducible refine bokL ?_ | with_reducible refine bokR ?_ | with_reducible refine Side.mk ?_); first | omega | exact .inl rfl | exact .inr ⟨rfl, rfl, rfl⟩ | exact fun h => h | exact fun _ h => h | exact fun _ h => congrArg Bool.not h | (intro _ h; simp [gpick, h]; done) | (dsimp only; omega) | (simp only [List.length_map]; done) | (simp only [List.length_map, List.length_append, List.length_cons, List.length_nil, Int.toNat_natCast]; omega) | (intro h1 h2; rw [h1, h2]; rfl)) | ((fail_if_success (with_reducible refine Side.mk ?_)); constructor))
  · exact rfl
  refine Trip.seq ?_
  refine Trip.seq ?_
  apply Trip.reg tblOk
  · repeat' (first | exact rfl | exact idx_map _ _ _ (by show _ < _; first | omega | (simp only [List.length_map] at *; omega)) | ((first | with_reducible refine bok ?_ | with_reducible refine bokL ?_ | with_reducible refine bokR ?_ | with_reducible refine Side.mk ?_); first | omega | exact .inl rfl | exact .inr ⟨rfl, rfl, rfl⟩ | exact fun h => h | exact fun _ h => h | exact fun _ h => congrArg Bool.not h | (intro _ h; simp [gpick, h]; done) | (dsimp only; omega) | (simp only [List.length_map]; done) | (simp only [List.length_map, List.length_append, List.length_cons, List.length_nil, Int.toNat_natCast]; omega) | (intro h1 h2; rw [h1, h2]; rfl)) | ((fail_if_success (with_reducible refine Side.mk ?_)); constructor))
  · exact rfl
  refine Trip.block ?_
  rw [hg]
  refine Trip.seq ?_
  apply Trip.reg tblOk
  · repeat' (first | exact rfl | exact idx_map _ _ _ (by show _ < _; first | omega | (simp only [List.length_map] at *; omega)) | ((first | with_reducible refine bok ?_ | with_reducible refine bokL ?_ | with_reducible refine bokR ?_ | with_reducible refine Side.mk ?_); first | omega | exact .inl rfl | exact .inr ⟨rfl, rfl, rfl⟩ | exact fun h => h | exact fun _ h => h | exact fun _ h => congrArg Bool.not h | (intro _ h; simp [gpick, h]; done) | (dsimp only; omega) | (simp only [List.length_map]; done) | (simp only [List.length_map, List.length_append, List.length_cons, List.length_nil, Int.toNat_natCast]; omega) | (intro h1 h2; rw [h1, h2]; rfl)) | ((fail_if_success (with_reducible refine Side.mk ?_)); constructor))
  · exact rfl
  apply Trip.cond (.tmp rfl)
  · intro h
    have h : kind = 1 := by simpa using h
    rw [if_pos h]
    refine Trip.seq ?_
    apply Trip.reg tblOk
    · repeat' (first | exact rfl | (apply Rule.sem; intro hγ; with_reducible apply F_call (x := .func 23) (σ := []) (B := []) (news := []) hγ (hspec := c0)) | exact idx_map _ _ _ (by show _ < _; first | omega | (simp only [List.length_map] at *; omega)) | ((first | with_reducible refine bok ?_ | with_reducible refine bokL ?_ | with_reducible refine bokR ?_ | with_reducible refine Side.mk ?_); first | omega | exact .inl rfl | exact .inr ⟨rfl, rfl, rfl⟩ | exact fun h => h | exact fun _ h => h | exact fun _ h => congrArg Bool.not h | (intro _ h; simp [gpick, h]; done) | (dsimp only; omega) | (simp only [List.length_map]; done) | (simp only [List.length_map, List.length_append, List.length_cons, List.length_nil, Int.toNat_natCast]; omega) | (intro h1 h2; rw [h1, h2]; rfl)) | ((fail_if_success (with_reducible refine Side.mk ?_)); constructor))
    · exact rfl
    refine Trip.ret ?_
    apply Ret2 []
    · repeat' (first | exact rfl | constructor)
    · exact rfl
    · repeat' (first | exact rfl | constructor)
    · repeat' (first | exact rfl | constructor)
  intro h
  have h : ¬ kind = 1 := by simpa using h
  rw [if_neg h]
  refine Trip.seq ?_
  apply Trip.reg tblOk
  · repeat' (first | exact rfl | exact idx_map _ _ _ (by show _ < _; first | omega | (simp only [List.length_map] at *; omega)) | ((first | with_reducible refine bok ?_ | with_reducible refine bokL ?_ | with_reducible refine bokR ?_ | with_reducible refine Side.mk ?_); first | omega | exact .inl rfl | exact .inr ⟨rfl, rfl, rfl⟩ | exact fun h => h | exact fun _ h => h | exact fun _ h => congrArg Bool.not h | (intro _ h; simp [gpick, h]; done) | (dsimp only; omega) | (simp only [List.length_map]; done) | (simp only [List.length_map, List.length_append, List.length_cons, List.length_nil, Int.toNat_natCast]; omega) | (intro h1 h2; rw [h1, h2]; rfl)) | ((fail_if_success (with_reducible refine Side.mk ?_)); constructor))
  · exact rfl
  apply Trip.cond (.tmp rfl)
  · intro h
    have h : kind = 2 := by simpa using h
    rw [if_pos h]
    refine Trip.seq ?_
    apply Trip.reg tblOk
    · repeat' (first | exact rfl | (apply Rule.sem; intro hγ; with_reducible apply F_call (x := .func 25) (σ := []) (B := []) (news := []) hγ (hspec := c1)) | exact idx_map _ _ _ (by show _ < _; first | omega | (simp only [List.length_map] at *; omega)) | ((first | with_reducible refine bok ?_ | with_reducible refine bokL ?_ | with_reducible refine bokR ?_ | with_reducible refine Side.mk ?_); first | omega | exact .inl rfl | exact .inr ⟨rfl, rfl, rfl⟩ | exact fun h => h | exact fun _ h => h | exact fun _ h => congrArg Bool.not h | (intro _ h; simp [gpick, h]; done) | (dsimp only; omega) | (simp only [List.length_map]; done) | (simp only [List.length_map, List.length_append, List.length_cons, List.length_nil, Int.toNat_natCast]; omega) | (intro h1 h2; rw [h1, h2]; rfl)) | ((fail_if_success (with_reducible refine Side.mk ?_)); constructor))
    · exact rfl
    refine Trip.ret ?_
    apply Ret2 []
    · repeat' (first | exact rfl | constructor)
    · exact rfl
    · repeat' (first | exact rfl | constructor)
    · repeat' (first | exact rfl | constructor)
  intro h
  have h : ¬ kind = 2 := by simpa using h
  rw [if_neg h]
  refine Trip.seq ?_
  apply Trip.reg tblOk
  · repeat' (first | exact rfl | exact idx_map _ _ _ (by show _ < _; first | omega | (simp only [List.length_map] at *; omega)) | ((first | with_reducible refine bok ?_ | with_reducible refine bokL ?_ | with_reducible refine bokR ?_ | with_reducible refine Side.mk ?_); first | omega | exact .inl rfl | exact .inr ⟨rfl, rfl, rfl⟩ | exact fun h => h | exact fun _ h => h | exact fun _ h => congrArg Bool.not h | (intro _ h; simp [gpick, h]; done) | (dsimp only; omega) | (simp only [List.length_map]; done) | (simp only [List.length_map, List.length_append, List.length_cons, List.length_nil, Int.toNat_natCast]; omega) | (intro h1 h2; rw [h1, h2]; rfl)) | ((fail_if_success (with_reducible refine Side.mk ?_)); constructor))
  · exact rfl
  apply Trip.cond (.tmp rfl)
  · intro h
    have h : kind = 3 := by simpa using h
    rw [if_pos h]
    refine Trip.seq ?_
    apply Trip.reg tblOk
    · repeat' (first | exact rfl | (apply Rule.sem; intro hγ; with_reducible apply F_call (x := .func 27) (σ := []) (B := []) (news := []) hγ (hspec := c2)) | exact idx_map _ _ _ (by show _ < _; first | omega | (simp only [List.length_map] at *; omega)) | ((first | with_reducible refine bok ?_ | with_reducible refine bokL ?_ | with_reducible refine bokR ?_ | with_reducible refine Side.mk ?_); first | omega | exact .inl rfl | exact .inr ⟨rfl, rfl, rfl⟩ | exact fun h => h | exact fun _ h => h | exact fun _ h => congrArg Bool.not h | (intro _ h; simp [gpick, h]; done) | (dsimp only; omega) | (simp only [List.length_map]; done) | (simp only [List.length_map, List.length_append, List.length_cons, List.length_nil, Int.toNat_natCast]; omega) | (intro h1 h2; rw [h1, h2]; rfl)) | ((fail_if_success (with_reducible refine Side.mk ?_)); constructor))
    · exact rfl
    refine Trip.ret ?_
    apply Ret2 []
    · repeat' (first | exact rfl | constructor)
    · exact rfl
    · repeat' (first | exact rfl | constructor)
    · repeat' (first | exact rfl | constructor)
  intro h
  have h : ¬ kind = 3 := by simpa using h
  rw [if_neg h]
  refine Trip.seq ?_
  apply Trip.reg tblOk
  · repeat' (first | exact rfl | exact idx_map _ _ _ (by show _ < _; first | omega | (simp only [List.length_map] at *; omega)) | ((first | with_reducible refine bok ?_ | with_reducible refine bokL ?_ | with_reducible refine bokR ?_ | with_reducible refine Side.mk ?_); first | omega | exact .inl rfl | exact .inr ⟨rfl, rfl, rfl⟩ | exact fun h => h | exact fun _ h => h | exact fun _ h => congrArg Bool.not h | (intro _ h; simp [gpick, h]; done) | (dsimp only; omega) | (simp only [List.length_map]; done) | (simp only [List.length_map, List.length_append, List.length_cons, List.length_nil, Int.toNat_natCast]; omega) | (intro h1 h2; rw [h1, h2]; rfl)) | ((fail_if_success (with_reducible refine Side.mk ?_)); constructor))
  · exact rfl
  apply Trip.cond (.tmp rfl)
  · intro h
    have h : kind = 4 := by simpa using h
    rw [if_pos h]
    refine Trip.seq ?_
    apply Trip.reg tblOk
    · repeat' (first | exact rfl | (apply Rule.sem; intro hγ; with_reducible apply F_call (x := .func 28) (σ := []) (B := []) (news := []) hγ (hspec := c3)) | exact idx_map _ _ _ (by show _ < _; first | omega | (simp only [List.length_map] at *; omega)) | ((first | with_reducible refine bok ?_ | with_reducible refine bokL ?_ | with_reducible refine bokR ?_ | with_reducible refine Side.mk ?_); first | omega | exact .inl rfl | exact .inr ⟨rfl, rfl, rfl⟩ | exact fun h => h | exact fun _ h => h | exact fun _ h => congrArg Bool.not h | (intro _ h; simp [gpick, h]; done) | (dsimp only; omega) | (simp only [List.length_map]; done) | (simp only [List.length_map, List.length_append, List.length_cons, List.length_nil, Int.toNat_natCast]; omega) | (intro h1 h2; rw [h1, h2]; rfl)) | ((fail_if_success (with_reducible refine Side.mk ?_)); constructor))
    · exact rfl
    refine Trip.ret ?_
    apply Ret2 []
    · repeat' (first | exact rfl | constructor)
    · exact rfl
    · repeat' (first | exact rfl | constructor)
    · repeat' (first | exact rfl | constructor)
  intro h
  have h : ¬ kind = 4 := by simpa using h
  rw [if_neg h]
  refine Trip.seq ?_
  apply Trip.reg tblOk
  · repeat' (first | exact rfl | exact idx_map _ _ _ (by show _ < _; first | omega | (simp only [List.length_map] at *; omega)) | ((first | with_reducible refine bok ?_ | with_reducible refine bokL ?_ | with_reducible refine bokR ?_ | with_reducible refine Side.mk ?_); first | omega | exact .inl rfl | exact .inr ⟨rfl, rfl, rfl⟩ | exact fun h => h | exact fun _ h => h | exact fun _ h => congrArg Bool.not h | (intro _ h; simp [gpick, h]; done) | (dsimp only; omega) | (simp only [List.length_map]; done) | (simp only [List.length_map, List.length_append, List.length_cons, List.length_nil, Int.toNat_natCast]; omega) | (intro h1 h2; rw [h1, h2]; rfl)) | ((fail_if_success (with_reducible refine Side.mk ?_)); constructor))
  · exact rfl
  apply Trip.cond (.tmp rfl)
  · intro h
    have h : kind = 5 := by simpa using h
    rw [if_pos h]
    refine Trip.seq ?_
    apply Trip.reg tblOk
    · repeat' (first | exact rfl | (apply Rule.sem; intro hγ; with_reducible apply F_call (x := .func 29) (σ := []) (B := []) (news := []) hγ (hspec := c4)) | exact idx_map _ _ _ (by show _ < _; first | omega | (simp only [List.length_map] at *; omega)) | ((first | with_reducible refine bok ?_ | with_reducible refine bokL ?_ | with_reducible refine bokR ?_ | with_reducible refine Side.mk ?_); first | omega | exact .inl rfl | exact .inr ⟨rfl, rfl, rfl⟩ | exact fun h => h | exact fun _ h => h | exact fun _ h => congrArg Bool.not h | (intro _ h; simp [gpick, h]; done) | (dsimp only; omega) | (simp only [List.length_map]; done) | (simp only [List.length_map, List.length_append, List.length_cons, List.length_nil, Int.toNat_natCast]; omega) | (intro h1 h2; rw [h1, h2]; rfl)) | ((fail_if_success (with_reducible refine Side.mk ?_)); constructor))
    · exact rfl
    refine Trip.ret ?_
    apply Ret2 []
    · repeat' (first | exact rfl | constructor)
    · exact rfl
    · repeat' (first | exact rfl | constructor)
    · repeat' (first | exact rfl | constructor)
  intro h
  have h : ¬ kind = 5 := by simpa using h
  rw [if_neg h]
  refine Trip.skip ?_
  refine Trip.seq ?_
  apply Trip.reg tblOk
  · repeat' (first | exact rfl | (apply Rule.sem; intro hγ; with_reducible apply F_call (x := .func 9) (σ := []) (B := []) (news := []) hγ (hspec := c5)) | exact idx_map _ _ _ (by show _ < _; first | omega | (simp only [List.length_map] at *; omega)) | ((first | with_reducible refine bok ?_ | with_reducible refine bokL ?_ | with_reducible refine bokR ?_ | with_reducible refine Side.mk ?_); first | omega | exact .inl rfl | exact .inr ⟨rfl, rfl, rfl⟩ | exact fun h => h | exact fun _ h => h | exact fun _ h => congrArg Bool.not h | (intro _ h; simp [gpick, h]; done) | (dsimp only; omega) | (simp only [List.length_map]; done) | (simp only [List.length_map, List.length_append, List.length_cons, List.length_nil, Int.toNat_natCast]; omega) | (intro h1 h2; rw [h1, h2]; rfl)) | ((fail_if_success (with_reducible refine Side.mk ?_)); constructor))
  · exact rfl
  refine Trip.ret ?_
  apply Ret2 []
  · repeat' (first | exact rfl | constructor)
  · exact rfl
  · repeat' (first | exact rfl | constructor)
  · repeat' (first | exact rfl | constructor)

set_option maxRecDepth 4000 in
set_option maxHeartbeats 400000 in
theorem cShould (d : Disk) (x : Deed) (hd : d.Ok) (hs : ∀ f ∈ d.fs, f.data.length + x.data.length ≤ 9223372036854775807) :
    Ctr prog 17 [d.pv, x.pv] [] (.tup [(should d x).1.pv, iV (should d x).2]) [] [] := by
  have c0 := cPut2 d x.name x.data hd
  have c1 := cAppend2 d x.name x.data hd hs
  have c2 := cSync2 d x.name hd
  have c3 := cMove2 d x.name x.into hd
  have c4 := cDrop2 d x.name hd
  have c5 := cCrash2 d x.kn x.keep x.left hd.size
  have hg : should d x = if x.kind = 1 then rput d x.name x.data else if x.kind = 2 then rappend d x.name x.data else if x.kind = 3 then rsync d x.name else if x.kind = 4 then rmove d x.name x.into else if x.kind = 5 then rdrop d x.name else (crash d x.keep x.left, 0) := rfl
  generalize rput d x.name x.data = r0 at *
  generalize rappend d x.name x.data = r1 at *
  generalize rsync d x.name = r2 at *
  generalize rmove d x.name x.into = r3 at *
  generalize rdrop d x.name = r4 at *
  generalize crash d x.keep x.left = r5 at *
  obtain ⟨⟨n0, f0, l0, o0⟩, e0⟩ := r0
  obtain ⟨⟨n1, f1, l1, o1⟩, e1⟩ := r1
  obtain ⟨⟨n2, f2, l2, o2⟩, e2⟩ := r2
  obtain ⟨⟨n3, f3, l3, o3⟩, e3⟩ := r3
  obtain ⟨⟨n4, f4, l4, o4⟩, e4⟩ := r4
  obtain ⟨n5, f5, l5, o5⟩ := r5
  obtain ⟨nl, fs, left, off⟩ := d
  obtain ⟨kind, cleft, name, data, into, kn, keep⟩ := x
  dsimp only at *
  refine Ctr.enter tblOk func17 rfl (by decide) rfl (nt := 60) rfl rfl rfl rfl ?_
  refine Trip.seq ?_
  apply Trip.reg tblOk
  · repeat' (first | exact rfl | exact idx_map _ _ _ (by show _ < _; first | omega | (simp only [List.length_map] at *; omega)) | ((first | with_reducible refine bok ?_ | with_reducible refine bokL ?_ | with_reducible refine bokR ?_ | with_reducible refine Side.mk ?_); first | omega | exact .inl rfl | exact .inr ⟨rfl, rfl, rfl⟩ | exact fun h => h | exact fun _ h => h | exact fun _ h => congrArg Bool.not h | (intro _ h; simp [gpick, h]; done) | (dsimp only; omega) | (simp only [List.length_map]; done) | (simp only [List.length_map, List.length_append, List.length_cons, List.length_nil, Int.toNat_natCast]; omega) | (intro h1 h2; rw [h1, h2]; rfl)) | ((fail_if_success (with_reducible refine Side.mk ?_)); constructor))
  · exact rfl
  refine Trip.seq ?_
  refine Trip.seq ?_
  apply Trip.reg tblOk
  · repeat' (first | exact rfl | exact idx_map _ _ _ (by show _ < _; first | omega | (simp only [List.length_map] at *; omega)) | ((first | with_reducible refine bok ?_ | with_reducible refine bokL ?_ | with_reducible refine bokR ?_ | with_reducible refine Side.mk ?_); first | omega | exact .inl rfl | exact .inr ⟨rfl, rfl, rfl⟩ | exact fun h => h | exact fun _ h => h | exact fun _ h => congrArg Bool.not h | (intro _ h; simp [gpick, h]; done) | (dsimp only; omega) | (simp only [List.length_map]; done) | (simp only [List.length_map, List.length_append, List.length_cons, List.length_nil, Int.toNat_natCast]; omega) | (intro h1 h2; rw [h1, h2]; rfl)) | ((fail_if_success (with_reducible refine Side.mk ?_)); constructor))
  · exact rfl
  refine Trip.block ?_
  rw [hg]
  refine Trip.seq ?_
  apply Trip.reg tblOk
  · repeat' (first | exact rfl | exact idx_map _ _ _ (by show _ < _; first | omega | (simp only [List.length_map] at *; omega)) | ((first | with_reducible refine bok ?_ | with_reducible refine bokL ?_ | with_reducible refine bokR ?_ | with_reducible refine Side.mk ?_); first | omega | exact .inl rfl | exact .inr ⟨rfl, rfl, rfl⟩ | exact fun h => h | exact fun _ h => h | exact fun _ h => congrArg Bool.not h | (intro _ h; simp [gpick, h]; done) | (dsimp only; omega) | (simp only [List.length_map]; done) | (simp only [List.length_map, List.length_append, List.length_cons, List.length_nil, Int.toNat_natCast]; omega) | (intro h1 h2; rw [h1, h2]; rfl)) | ((fail_if_success (with_reducible refine Side.mk ?_)); constructor))
  · exact rfl
  apply Trip.cond (.tmp rfl)
  · intro h
    have h : kind = 1 := by simpa using h
    rw [if_pos h]
    refine Trip.seq ?_
    apply Trip.reg tblOk
    · repeat' (first | exact rfl | (apply Rule.sem; intro hγ; with_reducible apply F_call (x := .func 24) (σ := []) (B := []) (news := []) hγ (hspec := c0)) | exact idx_map _ _ _ (by show _ < _; first | omega | (simp only [List.length_map] at *; omega)) | ((first | with_reducible refine bok ?_ | with_reducible refine bokL ?_ | with_reducible refine bokR ?_ | with_reducible refine Side.mk ?_); first | omega | exact .inl rfl | exact .inr ⟨rfl, rfl, rfl⟩ | exact fun h => h | exact fun _ h => h | exact fun _ h => congrArg Bool.not h | (intro _ h; simp [gpick, h]; done) | (dsimp only; omega) | (simp only [List.length_map]; done) | (simp only [List.length_map, List.length_append, List.length_cons, List.length_nil, Int.toNat_natCast]; omega) | (intro h1 h2; rw [h1, h2]; rfl)) | ((fail_if_success (with_reducible refine Side.mk ?_)); constructor))
    · exact rfl
    refine Trip.ret ?_
    apply Ret2 []
    · repeat' (first | exact rfl | constructor)
    · exact rfl
    · repeat' (first | exact rfl | constructor)
    · repeat' (first | exact rfl | constructor)
  intro h
  have h : ¬ kind = 1 := by simpa using h
  rw [if_neg h]
  refine Trip.seq ?_
  apply Trip.reg tblOk
  · repeat' (first | exact rfl | exact idx_map _ _ _ (by show _ < _; first | omega | (simp only [List.length_map] at *; omega)) | ((first | with_reducible refine bok ?_ | with_reducible refine bokL ?_ | with_reducible refine bokR ?_ | with_reducible refine Side.mk ?_); first | omega | exact .inl rfl | exact .inr ⟨rfl, rfl, rfl⟩ | exact fun h => h | exact fun _ h => h | exact fun _ h => congrArg Bool.not h | (intro _ h; simp [gpick, h]; done) | (dsimp only; omega) | (simp only [List.length_map]; done) | (simp only [List.length_map, List.length_append, List.length_cons, List.length_nil, Int.toNat_natCast]; omega) | (intro h1 h2; rw [h1, h2]; rfl)) | ((fail_if_success (with_reducible refine Side.mk ?_)); constructor))
  · exact rfl
  apply Trip.cond (.tmp rfl)
  · intro h
    have h : kind = 2 := by simpa using h
    rw [if_pos h]
    refine Trip.seq ?_
    apply Trip.reg tblOk
    · repeat' (first | exact rfl | (apply Rule.sem; intro hγ; with_reducible apply F_call (x := .func 26) (σ := []) (B := []) (news := []) hγ (hspec := c1)) | exact idx_map _ _ _ (by show _ < _; first | omega | (simp only [List.length_map] at *; omega)) | ((first | with_reducible refine bok ?_ | with_reducible refine bokL ?_ | with_reducible refine bokR ?_ | with_reducible refine Side.mk ?_); first | omega | exact .inl rfl | exact .inr ⟨rfl, rfl, rfl⟩ | exact fun h => h | exact fun _ h => h | exact fun _ h => congrArg Bool.not h | (intro _ h; simp [gpick, h]; done) | (dsimp only; omega) | (simp only [List.length_map]; done) | (simp only [List.length_map, List.length_append, List.length_cons, List.length_nil, Int.toNat_natCast]; omega) | (intro h1 h2; rw [h1, h2]; rfl)) | ((fail_if_success (with_reducible refine Side.mk ?_)); constructor))
    · exact rfl
    refine Trip.ret ?_
    apply Ret2 []
    · repeat' (first | exact rfl | constructor)
    · exact rfl
    · repeat' (first | exact rfl | constructor)
    · repeat' (first | exact rfl | constructor)
  intro h
  have h : ¬ kind = 2 := by simpa using h
  rw [if_neg h]
  refine Trip.seq ?_
  apply Trip.reg tblOk
  · repeat' (first | exact rfl | exact idx_map _ _ _ (by show _ < _; first | omega | (simp only [List.length_map] at *; omega)) | ((first | with_reducible refine bok ?_ | with_reducible refine bokL ?_ | with_reducible refine bokR ?_ | with_reducible refine Side.mk ?_); first | omega | exact .inl rfl | exact .inr ⟨rfl, rfl, rfl⟩ | exact fun h => h | exact fun _ h => h | exact fun _ h => congrArg Bool.not h | (intro _ h; simp [gpick, h]; done) | (dsimp only; omega) | (simp only [List.length_map]; done) | (simp only [List.length_map, List.length_append, List.length_cons, List.length_nil, Int.toNat_natCast]; omega) | (intro h1 h2; rw [h1, h2]; rfl)) | ((fail_if_success (with_reducible refine Side.mk ?_)); constructor))
  · exact rfl
  apply Trip.cond (.tmp rfl)
  · intro h
    have h : kind = 3 := by simpa using h
    rw [if_pos h]
    refine Trip.seq ?_
    apply Trip.reg tblOk
    · repeat' (first | exact rfl | (apply Rule.sem; intro hγ; with_reducible apply F_call (x := .func 32) (σ := []) (B := []) (news := []) hγ (hspec := c2)) | exact idx_map _ _ _ (by show _ < _; first | omega | (simp only [List.length_map] at *; omega)) | ((first | with_reducible refine bok ?_ | with_reducible refine bokL ?_ | with_reducible refine bokR ?_ | with_reducible refine Side.mk ?_); first | omega | exact .inl rfl | exact .inr ⟨rfl, rfl, rfl⟩ | exact fun h => h | exact fun _ h => h | exact fun _ h => congrArg Bool.not h | (intro _ h; simp [gpick, h]; done) | (dsimp only; omega) | (simp only [List.length_map]; done) | (simp only [List.length_map, List.length_append, List.length_cons, List.length_nil, Int.toNat_natCast]; omega) | (intro h1 h2; rw [h1, h2]; rfl)) | ((fail_if_success (with_reducible refine Side.mk ?_)); constructor))
    · exact rfl
    refine Trip.ret ?_
    apply Ret2 []
    · repeat' (first | exact rfl | constructor)
    · exact rfl
    · repeat' (first | exact rfl | constructor)
    · repeat' (first | exact rfl | constructor)
  intro h
  have h : ¬ kind = 3 := by simpa using h
  rw [if_neg h]
  refine Trip.seq ?_
  apply Trip.reg tblOk
  · repeat' (first | exact rfl | exact idx_map _ _ _ (by show _ < _; first | omega | (simp only [List.length_map] at *; omega)) | ((first | with_reducible refine bok ?_ | with_reducible refine bokL ?_ | with_reducible refine bokR ?_ | with_reducible refine Side.mk ?_); first | omega | exact .inl rfl | exact .inr ⟨rfl, rfl, rfl⟩ | exact fun h => h | exact fun _ h => h | exact fun _ h => congrArg Bool.not h | (intro _ h; simp [gpick, h]; done) | (dsimp only; omega) | (simp only [List.length_map]; done) | (simp only [List.length_map, List.length_append, List.length_cons, List.length_nil, Int.toNat_natCast]; omega) | (intro h1 h2; rw [h1, h2]; rfl)) | ((fail_if_success (with_reducible refine Side.mk ?_)); constructor))
  · exact rfl
  apply Trip.cond (.tmp rfl)
  · intro h
    have h : kind = 4 := by simpa using h
    rw [if_pos h]
    refine Trip.seq ?_
    apply Trip.reg tblOk
    · repeat' (first | exact rfl | (apply Rule.sem; intro hγ; with_reducible apply F_call (x := .func 33) (σ := []) (B := []) (news := []) hγ (hspec := c3)) | exact idx_map _ _ _ (by show _ < _; first | omega | (simp only [List.length_map] at *; omega)) | ((first | with_reducible refine bok ?_ | with_reducible refine bokL ?_ | with_reducible refine bokR ?_ | with_reducible refine Side.mk ?_); first | omega | exact .inl rfl | exact .inr ⟨rfl, rfl, rfl⟩ | exact fun h => h | exact fun _ h => h | exact fun _ h => congrArg Bool.not h | (intro _ h; simp [gpick, h]; done) | (dsimp only; omega) | (simp only [List.length_map]; done) | (simp only [List.length_map, List.length_append, List.length_cons, List.length_nil, Int.toNat_natCast]; omega) | (intro h1 h2; rw [h1, h2]; rfl)) | ((fail_if_success (with_reducible refine Side.mk ?_)); constructor))
    · exact rfl
    refine Trip.ret ?_
    apply Ret2 []
    · repeat' (first | exact rfl | constructor)
    · exact rfl
    · repeat' (first | exact rfl | constructor)
    · repeat' (first | exact rfl | constructor)
  intro h
  have h : ¬ kind = 4 := by simpa using h
  rw [if_neg h]
  refine Trip.seq ?_
  apply Trip.reg tblOk
  · repeat' (first | exact rfl | exact idx_map _ _ _ (by show _ < _; first | omega | (simp only [List.length_map] at *; omega)) | ((first | with_reducible refine bok ?_ | with_reducible refine bokL ?_ | with_reducible refine bokR ?_ | with_reducible refine Side.mk ?_); first | omega | exact .inl rfl | exact .inr ⟨rfl, rfl, rfl⟩ | exact fun h => h | exact fun _ h => h | exact fun _ h => congrArg Bool.not h | (intro _ h; simp [gpick, h]; done) | (dsimp only; omega) | (simp only [List.length_map]; done) | (simp only [List.length_map, List.length_append, List.length_cons, List.length_nil, Int.toNat_natCast]; omega) | (intro h1 h2; rw [h1, h2]; rfl)) | ((fail_if_success (with_reducible refine Side.mk ?_)); constructor))
  · exact rfl
  apply Trip.cond (.tmp rfl)
  · intro h
    have h : kind = 5 := by simpa using h
    rw [if_pos h]
    refine Trip.seq ?_
    apply Trip.reg tblOk
    · repeat' (first | exact rfl | (apply Rule.sem; intro hγ; with_reducible apply F_call (x := .func 34) (σ := []) (B := []) (news := []) hγ (hspec := c4)) | exact idx_map _ _ _ (by show _ < _; first | omega | (simp only [List.length_map] at *; omega)) | ((first | with_reducible refine bok ?_ | with_reducible refine bokL ?_ | with_reducible refine bokR ?_ | with_reducible refine Side.mk ?_); first | omega | exact .inl rfl | exact .inr ⟨rfl, rfl, rfl⟩ | exact fun h => h | exact fun _ h => h | exact fun _ h => congrArg Bool.not h | (intro _ h; simp [gpick, h]; done) | (dsimp only; omega) | (simp only [List.length_map]; done) | (simp only [List.length_map, List.length_append, List.length_cons, List.length_nil, Int.toNat_natCast]; omega) | (intro h1 h2; rw [h1, h2]; rfl)) | ((fail_if_success (with_reducible refine Side.mk ?_)); constructor))
    · exact rfl
    refine Trip.ret ?_
    apply Ret2 []
    · repeat' (first | exact rfl | constructor)
    · exact rfl
    · repeat' (first | exact rfl | constructor)
    · repeat' (first | exact rfl | constructor)
  intro h
  have h : ¬ kind = 5 := by simpa using h
  rw [if_neg h]
  refine Trip.skip ?_
  refine Trip.seq ?_
  apply Trip.reg tblOk
  · repeat' (first | exact rfl | (apply Rule.sem; intro hγ; with_reducible apply F_call (x := .func 13) (σ := []) (B := []) (news := []) hγ (hspec := c5)) | exact idx_map _ _ _ (by show _ < _; first | omega | (simp only [List.length_map] at *; omega)) | ((first | with_reducible refine bok ?_ | with_reducible refine bokL ?_ | with_reducible refine bokR ?_ | with_reducible refine Side.mk ?_); first | omega | exact .inl rfl | exact .inr ⟨rfl, rfl, rfl⟩ | exact fun h => h | exact fun _ h => h | exact fun _ h => congrArg Bool.not h | (intro _ h; simp [gpick, h]; done) | (dsimp only; omega) | (simp only [List.length_map]; done) | (simp only [List.length_map, List.length_append, List.length_cons, List.length_nil, Int.toNat_natCast]; omega) | (intro h1 h2; rw [h1, h2]; rfl)) | ((fail_if_success (with_reducible refine Side.mk ?_)); constructor))
  · exact rfl
  refine Trip.ret ?_
  apply Ret2 []
  · repeat' (first | exact rfl | constructor)
  · exact rfl
  · repeat' (first | exact rfl | constructor)
  · repeat' (first | exact rfl | constructor)
end Go.Proofs.Try
