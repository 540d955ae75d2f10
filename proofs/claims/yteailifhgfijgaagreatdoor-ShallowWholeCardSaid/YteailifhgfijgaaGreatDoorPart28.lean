/- A part of the proof: Gzb, Gzc, Gzd, Gze, Gzf, Gzg, Gzh, Ha, GZero, Hb, Hn. -/
import Derived.Test.YteailifhgfijgaaGreatDoorPart27
import Derived.Lib.SplitLaws
set_option linter.unusedVariables false
set_option linter.unusedSimpArgs false
namespace Go.Proofs.Tryz
open Go Go.Sym Go.Graft
set_option maxRecDepth 20000
abbrev stPV (nl : Bool) (l : List It) : PV := .agg [.sl nl 3 (l.map It.pv)]
theorem cPlace (nl : Bool) (l : List It) (x : Str) (hs : l.length ≤ 1000000000) : Ctr prog 59 [stPV nl l, sV x] [] (.tup [iV (place l x), bV (placed l x)]) [] [] := by
 have c := cBSF nl l x hs
 generalize place l x = p at *
 generalize placed l x = q at *
 refine Ctr.enter tblOk func59 rfl (by decide) rfl (nt := 13) rfl rfl rfl rfl ?_
 refine Trip.sr tblOk ?_
 refine Trip.sR tblOk (by repeat' (first | exact rfl | (apply Rule.sem; intro hγ; with_reducible apply F_call0 (x := .func 88) (B := []) hγ (hspec := c)) | ((with_reducible refine Side.mk ?_); exact .inl rfl) | constructor)) ?_
 refine Trip.ret (rt2 [] (hd := by repeat' (exact cvB (by simp only [List.length_map]))))
theorem cOfIt (x : It) : Ctr prog 60 [x.pv] [] (objPV x.kind x.body) [] [] := by
 refine Ctr.enter tblOk func60 rfl (by decide) rfl (nt := 8) rfl rfl rfl rfl ?_
 refine Trip.sr tblOk ?_
 refine Trip.sr tblOk ?_
 refine Trip.ret (rt1 [])
end Go.Proofs.Tryz
namespace Go.Proofs.Tryz
open Go Go.Sym Go.Graft
set_option maxRecDepth 20000
theorem cGet (nl : Bool) (l : List It) (x : Str) (hs : l.length ≤ 1000000000) : Ctr prog 35 [stPV nl l, sV x] [] (.tup [objPV (if placed l x then l[place l x]!.kind else 0) (if placed l x then l[place l x]!.body else []), iV (if placed l x then 0 else 5)]) [] [] := by
 have c := cPlace nl l x hs
 have c2 := fun y => cOfIt y
 have hlt : placed l x = true → place l x < l.length := by
  intro h
  simp only [placed, Bool.and_eq_true, decide_eq_true_eq] at h
  omega
 generalize place l x = p at *
 generalize placed l x = q at *
 refine Ctr.enter tblOk func35 rfl (by decide) rfl (nt := 24) rfl rfl rfl rfl ?_
 refine Trip.sr tblOk ?_
 refine Trip.sR tblOk (by repeat' (first | exact rfl | (apply Rule.sem; intro hγ; with_reducible apply F_call0 (x := .func 59) (B := []) hγ (hspec := c)) | ((with_reducible refine Side.mk ?_); exact .inl rfl) | constructor)) ?_
 refine Trip.seq (Trip.sr tblOk ?_)
 apply Trip.cond (.tmp rfl)
 ·intro h
  have h : q = false := by simpa using h
  subst h
  refine Trip.sr tblOk ?_
  refine Trip.ret (rt2 [])
 intro h
 have h : q = true := by simpa using h
 subst h
 have hlt := hlt rfl
 simp only [if_true]
 refine Trip.skip (Trip.sR tblOk (by repeat' (first | exact rfl | (apply Rule.sem; intro hγ; with_reducible apply F_call0 (x := .func 60) (B := []) hγ (hspec := (c2 _))) | exact idx_map _ _ _ (by show _ < _; first | omega | (simp only [List.length_map] at *; omega)) | ((with_reducible refine Side.mk ?_); first | exact .inl rfl | (simp only [ln]; first | done | omega)) | constructor)) ?_)
 refine Trip.ret (rt2 [])
end Go.Proofs.Tryz
namespace Go.Proofs.Tryz
open Go Go.Sym Go.Graft
set_option maxRecDepth 20000
theorem arrF {sz : Nat} {b b' : Bool} {es es' : List PV} (hb : b = b') (h : es = es') : SObj.arr sz b es = SObj.arr sz b' es' := by rw [hb, h]
end Go.Proofs.Tryz
namespace Go.Proofs.Tryz
open Go Go.Sym Go.Graft
set_option maxRecDepth 20000
end Go.Proofs.Tryz
namespace Go.Proofs.Tryz
open Go Go.Sym Go.Graft
set_option maxRecDepth 20000
end Go.Proofs.Tryz
namespace Go.Proofs.Tryz
open Go Go.Sym Go.Graft
set_option maxRecDepth 20000
end Go.Proofs.Tryz
namespace Go.Proofs.Tryz
open Go Go.Sym Go.Graft
set_option maxRecDepth 20000
end Go.Proofs.Tryz
namespace Go.Proofs.Tryz
open Go Go.Sym Go.Graft Go.RowKit
set_option maxRecDepth 20000
theorem grown_alloc (w : World) (o : Obj) : Go.Sym.Grown w (w.alloc o) := ⟨rfl, rfl, rfl, by simp, fun b hb => Below.heap_alloc _ _ _ hb⟩
theorem sSplit (s : Str) (hs : s.length < 4294967281) : Ctr prog 193 [sV s, sV [47]] [] (.sl false 1 ((splitC 47 s).map fun x => sV x)) [] [] :=
 Ctr.of_new (xs := [.string ⟨⟨s⟩⟩, .string ⟨⟨[47]⟩⟩]) ⟨_, func193, rfl, rfl⟩ rfl fun w hg => by
  obtain ⟨m, hm⟩ := max_at hg
  refine (Tryz.strings_Split ⟨⟨s⟩⟩ ⟨⟨[47]⟩⟩ m w hs hm (by decide)).mono ?_
  rintro e w' ⟨rfl, rfl⟩
  refine ⟨_, rfl, grown_alloc _ _, fun F L hF => ?_⟩
  have h0 := Lib.splitB_all ⟨⟨[47]⟩⟩ (by decide) 0 _ ⟨⟨s⟩⟩ rfl
  have h1 := Lib.splitB_data ⟨⟨[47]⟩⟩ 0 (Lib.countB ⟨⟨s⟩⟩ ⟨⟨[47]⟩⟩) ⟨⟨s⟩⟩
  have h2 : Lib.splitK [47] 0 (Lib.countB ⟨⟨s⟩⟩ ⟨⟨[47]⟩⟩) s = splitC 47 s := split_eq 47 s
  generalize Lib.splitB ⟨⟨[47]⟩⟩ 0 (Lib.countB ⟨⟨s⟩⟩ ⟨⟨[47]⟩⟩) ⟨⟨s⟩⟩ = bs at *
  have h3 : bs.map (·.data.toList) = splitC 47 s := h1.trans h2
  rw [← h0]
  refine .sl (by rw [← h3]; simp) (Nat.le_refl _) (rows_of (hF _ (Nat.le_refl _)) _ (fun x => .string ⟨⟨x⟩⟩) (fun _ => rfl) (fun _ => .v _ _) _ _ fun j x hj => ?_)
  rw [← h3, List.getElem?_map] at hj
  cases hb : bs[j]? with
  | none => rw [hb] at hj; simp at hj
  | some y =>
   rw [hb] at hj
   simp at hj
   subst hj
   have hnew := heap_alloc_new w (.cells (bs.map Value.string).toArray 9)
   simp only [World.cell?, hnew]
   simp [hb]
theorem cPathIs (p : Str) : Ctr prog 176 [sV p] [] (bV (pathOk p)) [] [] := by
 have hpb : pathBad p = (decide (p = []) || decide (255 < (p.length : Int))) := rfl
 refine Ctr.enter tblOk func176 rfl (by decide) rfl (nt := 28) rfl rfl rfl rfl ?_
 refine Trip.sr tblOk ?_
 refine Trip.seq (Trip.sR tblOk (by repeat' (first | exact rfl | ((with_reducible refine Side.mk ?_); first | exact fun h => h | exact fun _ h => congrArg Bool.not h) | constructor)) ?_)
 apply Trip.cond (.tmp rfl)
 ·intro h
  have h : pathBad p = true := h
  rw [pathOk_bad h]
  refine Trip.sr tblOk ?_
  refine Trip.ret (rt1 [] (hc := by repeat' (exact cvB (by simp only [List.length_map]))))
 intro h
 have hb : pathBad p = false := h
 have hp : p.length ≤ 255 := by
  rw [hpb] at hb
  simp at hb
  omega
 refine Trip.skip ?_
 have cs := sSplit p (by omega)
 have cp := fun x (hx : x ∈ splitC 47 p) => cPart x (by have := splitC_mem_len 47 p x hx; omega)
 have hll := splitC_length 47 p
 have hk1 := fun i => @pathOk_part p i
 have hk2 := pathOk_end (p := p) hb
 generalize splitC 47 p = l at *
 refine Trip.sR tblOk (by repeat' (first | exact rfl | (apply Rule.sem; intro hγ; with_reducible apply F_call0 (x := .func 193) (B := []) hγ (hspec := cs)) | ((with_reducible refine Side.mk ?_); exact .inl rfl) | constructor)) ?_
 refine Trip.seq (Trip.sr tblOk ?_)
 refine Trip.block ?_
 refine Trip.loop (fun (i : Nat) => ⟨[(3, .sl false 1 (l.map fun x => sV x)), (15, .sl false 1 (l.map fun x => sV x)), (16, iV l.length), (17, iV i)], []⟩) (fun (i : Nat) => i ≤ l.length ∧ ∀ j, j < i → partOk l[j]! = true) (fun (i : Nat) => l.length - i) (0) (by exact ⟨Nat.zero_le _, fun j hj => absurd hj (by omega)⟩) (Weak.kp (ht := by repeat' (first | exact rfl | (refine vI ?_; first | omega | (simp; done) | (simp; omega) | (simp only [List.length_map] at *; omega)) | constructor))) ?_
 intro i hi
 obtain ⟨hi, hj⟩ := hi
 refine Trip.sr tblOk ?_
 refine Trip.seq ?_
 apply Trip.cond (.tmp rfl)
 ·intro h
  have h : i < l.length := by simp at h; omega
  have cp := cp _ (bang_mem h)
  refine Trip.skip (Trip.seq (Trip.block (Trip.sR tblOk (by repeat' (first | exact rfl | exact idx_map _ _ _ (by show _ < _; first | omega | (simp only [List.length_map] at *; omega)) | ((with_reducible refine Side.mk ?_); (simp only [ln]; first | done | omega)) | constructor)) ?_)))
  refine Trip.sR tblOk (by repeat' (first | exact rfl | (apply Rule.sem; intro hγ; with_reducible apply F_call0 (x := .func 194) (B := []) hγ (hspec := cp)) | ((with_reducible refine Side.mk ?_); exact .inl rfl) | constructor)) ?_
  apply Trip.cond (.tmp rfl)
  ·intro h2
   rw [hk1 _ h (by simpa using h2)]
   refine Trip.sr tblOk ?_
   refine Trip.ret (rt1 [] (hc := by repeat' (exact cvB (by simp only [List.length_map]))))
  intro h2
  have h2 : partOk l[i]! = true := by simpa using h2
  refine Trip.skip (Trip.R tblOk (by repeat' (first | exact rfl | ((with_reducible refine Side.mk ?_); omega) | constructor)) ?_)
  exact ⟨i + 1, by exact ⟨by omega, fun j h3 => (Nat.lt_succ_iff_lt_or_eq.1 h3).elim (hj j) (fun e => e ▸ h2)⟩, by first | omega | (dsimp only at *; omega), Weak.kp⟩
 intro h
 have h : i = l.length := by simp at h; omega
 subst h
 refine Trip.exit ?_
 rw [hk2 hj]
 refine Trip.sr tblOk ?_
 refine Trip.ret (rt1 [] (hc := by repeat' (exact cvB (by simp only [List.length_map]))))
theorem cParts6 (p : Str) (hs : p.length ≤ 1000000000000) : Ctr prog 184 [sV p] [] (.sl (decide (p = [])) 1 ((partsOf p).map fun x => sV x)) [] [] := by
 refine Ctr.enter tblOk func184 rfl (by decide) rfl (nt := 33) rfl rfl rfl rfl ?_
 refine Trip.sr tblOk ?_
 refine Trip.seq (Trip.sr tblOk ?_)
 apply Trip.cond (.tmp rfl)
 ·intro h
  have h : p = [] := by simpa using h
  subst h
  refine Trip.sr tblOk ?_
  refine Trip.ret (rt1 [])
 intro h
 have h : ¬ p = [] := by simpa using h
 rw [decide_eq_false h, partsOf, if_neg h]
 refine Trip.skip (Trip.sr tblOk ?_)
 refine Trip.sr tblOk ?_
 refine Trip.seq (Trip.sr tblOk ?_)
 refine Trip.block ?_
 apply Trip.loop (fun (x : List Str × Nat × Nat) => ⟨[(0, sV p), (3, .osl 900 0 x.1.length x.1.length), (4, iV x.2.1), (5, iV x.2.2)], [(900, .arr 1 x.1.isEmpty (x.1.map fun x => sV x))]⟩) (fun (x : List Str × Nat × Nat) => Cuts p x.1 x.2.1 x.2.2) (fun (x : List Str × Nat × Nat) => p.length - x.2.2) (([], 0, 0))
 ·exact cuts_zero p
 ·refine Weak.trans (S2 := ⟨[(0, sV p), (3, nilS), (4, iV 0), (5, iV 0)], []⟩) ?_ ?_
  ·exact Weak.kp
  ·exact Weak.adopt 900 1 rfl rfl (by repeat' (first | exact rfl | constructor)) (by repeat' (first | exact rfl | constructor))
 intro x hx
 obtain ⟨F, a, i⟩ := x
 dsimp only at *
 have hx2 := hx
 obtain ⟨h1, h2, h3, h4⟩ := hx2
 refine Trip.seq (Trip.sr tblOk ?_)
 apply Trip.cond (.tmp rfl)
 ·intro h
  have h : i < p.length := by simp at h; omega
  refine Trip.skip (Trip.seq (Trip.block (Trip.sR tblOk (by repeat' (first | exact rfl | ((with_reducible refine Side.mk ?_); omega) | constructor)) ?_)))
  apply Trip.cond (.tmp rfl)
  ·intro h5
   have h5 : p.getD i 0 = 47 := u8_eq (b := 47) (by simpa using h5)
   have hc := cuts_at hx h h5
   refine Trip.sR tblOk (by repeat' (first | exact rfl | ((first | with_reducible refine bok ?_ | with_reducible refine Side.mk ?_); first | omega | (simp only [ln]; first | done | omega)) | constructor)) ?_
   refine Trip.R tblOk (by repeat' (first | exact rfl | ((with_reducible refine Side.mk ?_); omega) | constructor)) ?_
   refine Trip.R tblOk (by repeat' (first | exact rfl | ((with_reducible refine Side.mk ?_); omega) | constructor)) ?_
   exact ⟨(F ++ [(p.take i).drop a], i + 1, i + 1), by exact hc, by first | omega | (dsimp only at *; omega), Weak.kp (ht := by repeat' (first | exact rfl | (refine Side.mk (oslE ?_ ?_) <;> (simp only [ln]; first | done | omega)) | constructor)) (ho := by repeat' (first | exact rfl | exact arrF (by simp) (by simp [loOf, hiOf]) | constructor)) (huo := by repeat' (first | exact plainL_map _ (fun _ => rfl) _ | constructor))⟩
  intro h5
  have h5 : ¬ p.getD i 0 = 47 := u8_ne (b := 47) (by simpa using h5)
  have hc := cuts_on hx h h5
  refine Trip.skip (Trip.R tblOk (by repeat' (first | exact rfl | ((with_reducible refine Side.mk ?_); omega) | constructor)) ?_)
  exact ⟨(F, a, i + 1), by exact hc, by first | omega | (dsimp only at *; omega), Weak.kp (huo := by repeat' (first | exact plainL_map _ (fun _ => rfl) _ | constructor))⟩
 intro h
 have h : i = p.length := by simp at h; omega
 subst h
 refine Trip.exit ?_
 rw [← cuts_end hx]
 refine Trip.rk ⟨[(2, .osl 900 0 (F ++ [(p.take p.length).drop a]).length (F ++ [(p.take p.length).drop a]).length)], [(900, .arr 1 false ((F ++ [(p.take p.length).drop a]).map fun x => sV x))]⟩ tblOk (by repeat' (first | exact rfl | ((first | with_reducible refine bokL ?_ | with_reducible refine Side.mk ?_); first | omega | (simp only [ln]; first | done | omega)) | constructor)) (Weak.kp (ht := by repeat' (first | exact rfl | (refine Side.mk (oslE ?_ ?_) <;> (simp only [ln]; first | done | omega)) | constructor)) (ho := by repeat' (first | exact rfl | exact arrF (by simp) (by simp [loOf, hiOf]) | constructor)) (huo := by repeat' (first | exact plainL_map _ (fun _ => rfl) _ | constructor))) ?_
 refine Trip.ret (rt1 [900] (hc := by repeat' (first | exact rfl | exact plainL_map _ (fun _ => rfl) _ | (refine Side.mk ?_; simp only [ln]; first | done | omega) | constructor)))
theorem cIs6 (p : Str) (hs : p.length ≤ 1000000000000) : Ctr prog 154 [sV p] [] (bV (pathOk p)) [] [] := by
 have hpb : partsBad p = (decide (((partsOf p).length : Int) < 1) || decide (16 < ((partsOf p).length : Int)) || decide (255 < (p.length : Int))) := rfl
 have c1 := cParts6 p hs
 have hll := partsOf_len p
 have cp : ∀ x, x ∈ partsOf p → Ctr prog 185 [sV x] [] (bV (partOk x)) [] [] := fun x hx => by
  obtain ⟨h1, h2⟩ := partsOf_mem hx
  rw [← h2]
  exact cPart2 x (by omega)
 rw [pathOk_parts]
 generalize partsBad p = b at *
 generalize partsOf p = l at *
 refine Ctr.enter tblOk func154 rfl (by decide) rfl (nt := 32) rfl rfl rfl rfl ?_
 refine Trip.sr tblOk ?_
 refine Trip.sR tblOk (by repeat' (first | exact rfl | (apply Rule.sem; intro hγ; with_reducible apply F_call0 (x := .func 184) (B := []) hγ (hspec := c1)) | ((with_reducible refine Side.mk ?_); exact .inl rfl) | constructor)) ?_
 refine Trip.seq (Trip.sR tblOk (by repeat' (first | exact rfl | ((with_reducible refine Side.mk ?_); first | exact fun h => h | exact fun _ h => congrArg Bool.not h) | constructor)) ?_)
 apply Trip.cond (.tmp rfl)
 ·intro h
  have h : b = true := by rw [hpb]; simpa using h
  subst h
  refine Trip.sr tblOk ?_
  refine Trip.ret (rt1 [])
 intro h
 have h : b = false := by rw [hpb]; simpa using h
 rw [h]
 refine Trip.skip (Trip.seq (Trip.sr tblOk ?_))
 refine Trip.block ?_
 refine Trip.loop (fun (i : Nat) => ⟨[(3, .sl (decide (p = [])) 1 (l.map fun x => sV x)), (4, iV i)], []⟩) (fun (i : Nat) => i ≤ l.length ∧ ∀ j, j < i → partOk l[j]! = true) (fun (i : Nat) => l.length - i) (0) (by exact ⟨Nat.zero_le _, fun j hj => absurd hj (by omega)⟩) Weak.kp ?_
 intro i hi
 obtain ⟨hi, hj⟩ := hi
 refine Trip.seq (Trip.sr tblOk ?_)
 apply Trip.cond (.tmp rfl)
 ·intro h
  have h : i < l.length := by simp at h; omega
  have cp := cp _ (bang_mem h)
  refine Trip.skip (Trip.seq (Trip.block (Trip.sR tblOk (by repeat' (first | exact rfl | (apply Rule.sem; intro hγ; with_reducible apply F_call0 (x := .func 185) (B := []) hγ (hspec := cp)) | exact idx_map _ _ _ (by show _ < _; first | omega | (simp only [List.length_map] at *; omega)) | ((with_reducible refine Side.mk ?_); first | exact .inl rfl | (simp only [ln]; first | done | omega)) | constructor)) ?_)))
  apply Trip.cond (.tmp rfl)
  ·intro h2
   rw [allS_false h (by simpa using h2)]
   refine Trip.sr tblOk ?_
   refine Trip.ret (rt1 [])
  intro h2
  have h2 : partOk l[i]! = true := by simpa using h2
  refine Trip.skip (Trip.R tblOk (by repeat' (first | exact rfl | ((with_reducible refine Side.mk ?_); omega) | constructor)) ?_)
  exact ⟨i + 1, by exact ⟨by omega, fun j h3 => (Nat.lt_succ_iff_lt_or_eq.1 h3).elim (hj j) (fun e => e ▸ h2)⟩, by first | omega | (dsimp only at *; omega), Weak.kp⟩
 intro h
 have h : i = l.length := by simp at h; omega
 subst h
 refine Trip.exit ?_
 rw [allS_true hj]
 refine Trip.sr tblOk ?_
 refine Trip.ret (rt1 [])
end Go.Proofs.Tryz
namespace Go.Proofs.Tryz
open Go Go.Sym
theorem zInt : ∀ w, (zeroValue 3).run Tryz.prog w = .ok (.int .i64 0) w := fun w => by kernel_rfl
theorem zBool : ∀ w, (zeroValue 4).run Tryz.prog w = .ok (.bool false) w := fun w => by kernel_rfl
def zComV : Value := .agg #[.string ⟨#[]⟩, .slice none 0 0, .string ⟨#[]⟩, .string ⟨#[]⟩, .int .i64 0, .int .i64 0, .string ⟨#[]⟩, .string ⟨#[]⟩, .int .i64 0, .int .i64 0, .string ⟨#[]⟩]
theorem zCom : ∀ w, (zeroValue 79).run Tryz.prog w = .ok zComV w := fun w => by kernel_rfl
def tblF : Tbl := [(120, ⟨.func, 1, 8, some [.nilFunc], true, false⟩)]
theorem tblFOk : TOk Tryz.prog tblF := (show mkTbl Tryz.prog [120] = tblF by kernel_rfl) ▸ mkTbl_ok Tryz.prog _
end Go.Proofs.Tryz
namespace Go.Proofs.Tryz
open Go Go.Sym Go.Graft
set_option maxRecDepth 20000
theorem cMay (x : En) (hn : x.name.length ≤ 1000000000) (hi : x.id.length ≤ 1000000000) : Ctr prog 143 [x.pv] [] (bV (mayE x)) [] [] := by
 have c1 := cPathIs x.name
 have c2 := sContains x.name [47] (by omega)
 have c3 := cIs x.id (by omega)
 have e : mayE x = (decide (1 ≤ x.mode) && decide (x.mode ≤ 4) && pathOk x.name && !Lib.contains x.name [47] && isId x.id) := by
  have : decide (Lib.indexByte x.name 47 < 0) = !Lib.contains x.name [47] := by
   rw [Lib.contains, index_one, ← decide_not]; exact decide_eq_decide.2 (by omega)
  rw [mayE, this]
 rw [e]
 generalize pathOk x.name = a at *
 generalize Lib.contains x.name [47] = b at *
 generalize isId x.id = d at *
 refine Ctr.enter tblOk func143 rfl (by decide) rfl (nt := 27) rfl rfl rfl rfl ?_
 refine Trip.sr tblOk ?_
 refine Trip.sR tblOk (by repeat' (first | exact rfl | (apply Rule.sem; intro hγ; with_reducible apply F_call0 (x := .func 176) (B := []) hγ (hspec := c1)) | (apply Rule.sem; intro hγ; with_reducible apply F_call0 (x := .func 150) (B := []) hγ (hspec := c2)) | (apply Rule.sem; intro hγ; with_reducible apply F_call0 (x := .func 145) (B := []) hγ (hspec := c3)) | ((with_reducible refine Side.mk ?_); first | exact .inl rfl | exact fun h => h | exact fun _ h => h) | constructor)) ?_
 refine Trip.ret (rt1 [] (hc := by repeat' (exact cvB (by simp only [List.length_map]))))
theorem cMay15 (x : En) (hn : x.name.length ≤ 1000000000) (hi : x.id.length ≤ 1000000000) : Ctr prog 112 [x.pv] [] (bV (mayE x)) [] [] := by
 have c1 := cIs6 x.name (by omega)
 have c2 := cFind14 x.name 47 0 (by omega) (Nat.zero_le _)
 have c3 := cIs2 x.id (by omega)
 have hf : findB x.name 47 0 = Lib.indexByte x.name 47 := by
  have := Lib.indexByte_ge x.name 47
  rw [findB, List.drop_zero]
  split <;> omega
 rw [hf] at c2
 have e : mayE x = (decide (1 ≤ x.mode) && decide (x.mode ≤ 4) && pathOk x.name && decide (Lib.indexByte x.name 47 < 0) && isId x.id) := rfl
 rw [e]
 generalize pathOk x.name = a at *
 generalize Lib.indexByte x.name 47 = b at *
 generalize isId x.id = d at *
 refine Ctr.enter tblOk func112 rfl (by decide) rfl (nt := 27) rfl rfl rfl rfl ?_
 refine Trip.sr tblOk ?_
 refine Trip.sR tblOk (by repeat' (first | exact rfl | (apply Rule.sem; intro hγ; with_reducible apply F_call0 (x := .func 154) (B := []) hγ (hspec := c1)) | (apply Rule.sem; intro hγ; with_reducible apply F_call0 (x := .func 110) (B := []) hγ (hspec := c2)) | (apply Rule.sem; intro hγ; with_reducible apply F_call0 (x := .func 70) (B := []) hγ (hspec := c3)) | ((with_reducible refine Side.mk ?_); first | exact .inl rfl | exact fun h => h | exact fun _ h => h) | constructor)) ?_
 refine Trip.ret (rt1 [] (hc := by repeat' (exact cvB (by simp only [List.length_map]))))
theorem cBegins (s t : Str) (hs : s.length ≤ 1000000000000) (ht : t.length ≤ 1000000000000) : Ctr prog 153 [sV s, sV t] [] (bV (Lib.hasPrefix s t)) [] [] := by
 rw [← begins_eq]
 refine Ctr.enter tblOk func153 rfl (by decide) rfl (nt := 18) rfl rfl rfl rfl ?_
 refine Trip.sr tblOk ?_
 refine Trip.sR tblOk (by repeat' (first | exact rfl | (apply Rule.under tblOk; intro hγ; with_reducible apply Rule.slice) | ((first | with_reducible refine bokR ?_ | with_reducible refine Side.mk ?_); first | exact fun h => h | exact fun _ h => h | exact fun _ => hγ | (have h2 := hγ; simp only [gpick, cond_true, cond_false, decide_eq_true_eq, Bool.and_eq_true, Bool.or_eq_true, Bool.not_eq_true', Bool.not_eq_false', Bool.or_eq_false_iff, decide_eq_false_iff_not, List.length_map] at h2; (try simp only [List.length_map]); omega)) | constructor)) ?_
 refine Trip.ret (rt1 [])
theorem cMode15 (s : Str) (hs : s.length ≤ 1000000000) : Ctr prog 108 [sV s] [] (iV (modeOf s)) [] [] := by
 have c1 := fun m : Nat => cDig15 m
 have c2 := fun (m : Nat) (h1 : 1 ≤ m) (h2 : m ≤ 4) => cBegins s (modeD m) (by omega) (by have := modeD_len m h1 h2; omega)
 have c3 := fun (m : Nat) (h1 : 1 ≤ m) (h2 : m ≤ 4) => cBegins (modeD m) s (by have := modeD_len m h1 h2; omega) (by omega)
 refine Ctr.enter tblOk func108 rfl (by decide) rfl (nt := 22) rfl rfl rfl rfl ?_
 refine Trip.sr tblOk ?_
 refine Trip.seq (Trip.sr tblOk ?_)
 refine Trip.block ?_
 refine Trip.loop (fun (m : Nat) => ⟨[(0, sV s), (3, iV m)], []⟩) (fun (m : Nat) => 1 ≤ m ∧ m ≤ 5 ∧ ∀ j : Nat, 1 ≤ j → j < m → Lib.hasPrefix s (modeD (j : Int)) = false) (fun (m : Nat) => 5 - m) (1) (by exact ⟨Nat.le_refl _, by omega, fun j h1 h2 => absurd h1 (by omega)⟩) Weak.kp ?_
 intro m hm
 obtain ⟨h1, h2, hj⟩ := hm
 refine Trip.seq (Trip.sr tblOk ?_)
 apply Trip.cond (.tmp rfl)
 ·intro h
  have h : m ≤ 4 := by simp at h; omega
  have c1 := c1 m
  have c2 := c2 m h1 h
  have hd := fun (hp : Lib.hasPrefix s (modeD (m : Int)) = true) => modeOf_hit h1 h hj hp
  have hd2 := fun (hp : Lib.hasPrefix s (modeD (m : Int)) = false) (j : Nat) (h3 : 1 ≤ j) (h4 : j < m + 1) => (Nat.lt_succ_iff_lt_or_eq.1 h4).elim (hj j h3) (fun e => e ▸ hp)
  generalize hpp : Lib.hasPrefix s (modeD (m : Int)) = p at c2 hd hd2
  generalize modeD (m : Int) = d at c1 c2
  refine Trip.skip (Trip.seq (Trip.block (Trip.sR tblOk (by repeat' (first | exact rfl | (apply Rule.sem; intro hγ; with_reducible apply F_call0 (x := .func 109) (B := []) hγ (hspec := c1)) | (apply Rule.sem; intro hγ; with_reducible apply F_call0 (x := .func 153) (B := []) hγ (hspec := c2)) | ((with_reducible refine Side.mk ?_); exact .inl rfl) | constructor)) ?_)))
  apply Trip.cond (.tmp rfl)
  ·intro h3
   have h3 : p = true := by simpa using h3
   rw [hd h3]
   refine Trip.sr tblOk ?_
   refine Trip.ret (rt1 [])
  intro h3
  have h3 : p = false := by simpa using h3
  refine Trip.skip (Trip.R tblOk (by repeat' (first | exact rfl | ((with_reducible refine Side.mk ?_); omega) | constructor)) ?_)
  exact ⟨m + 1, by exact ⟨by omega, by omega, hd2 h3⟩, by first | omega | (dsimp only at *; omega), Weak.kp⟩
 intro h
 have h : m = 5 := by simp at h; omega
 subst h
 refine Trip.exit ?_
 rw [modeOf_no hj]
 refine Trip.seq (Trip.sr tblOk ?_)
 refine Trip.block ?_
 refine Trip.loop (fun (m : Nat) => ⟨[(0, sV s), (4, iV m)], []⟩) (fun (m : Nat) => 1 ≤ m ∧ m ≤ 5 ∧ ∀ j : Nat, 1 ≤ j → j < m → Lib.hasPrefix (modeD (j : Int)) s = false) (fun (m : Nat) => 5 - m) (1) (by exact ⟨Nat.le_refl _, by omega, fun j h1 h2 => absurd h1 (by omega)⟩) Weak.kp ?_
 intro m hm
 obtain ⟨h1, h2, hj⟩ := hm
 refine Trip.seq (Trip.sr tblOk ?_)
 apply Trip.cond (.tmp rfl)
 ·intro h
  have h : m ≤ 4 := by simp at h; omega
  have c1 := c1 m
  have c3 := c3 m h1 h
  have hd := fun (hp : Lib.hasPrefix (modeD (m : Int)) s = true) => shortN_true h1 h hp
  have hd2 := fun (hp : Lib.hasPrefix (modeD (m : Int)) s = false) (j : Nat) (h3 : 1 ≤ j) (h4 : j < m + 1) => (Nat.lt_succ_iff_lt_or_eq.1 h4).elim (hj j h3) (fun e => e ▸ hp)
  generalize hpp : Lib.hasPrefix (modeD (m : Int)) s = p at c3 hd hd2
  generalize modeD (m : Int) = d at c1 c3
  refine Trip.skip (Trip.seq (Trip.block (Trip.sR tblOk (by repeat' (first | exact rfl | (apply Rule.sem; intro hγ; with_reducible apply F_call0 (x := .func 109) (B := []) hγ (hspec := c1)) | (apply Rule.sem; intro hγ; with_reducible apply F_call0 (x := .func 153) (B := []) hγ (hspec := c3)) | ((with_reducible refine Side.mk ?_); exact .inl rfl) | constructor)) ?_)))
  apply Trip.cond (.tmp rfl)
  ·intro h3
   have h3 : p = true := by simpa using h3
   rw [if_pos (hd h3)]
   refine Trip.sr tblOk ?_
   refine Trip.ret (rt1 [])
  intro h3
  have h3 : p = false := by simpa using h3
  refine Trip.skip (Trip.R tblOk (by repeat' (first | exact rfl | ((with_reducible refine Side.mk ?_); omega) | constructor)) ?_)
  exact ⟨m + 1, by exact ⟨by omega, by omega, hd2 h3⟩, by first | omega | (dsimp only at *; omega), Weak.kp⟩
 intro h
 have h : m = 5 := by simp at h; omega
 subst h
 refine Trip.exit ?_
 rw [shortN_false hj]
 refine Trip.sr tblOk ?_
 refine Trip.ret (rt1 [])
end Go.Proofs.Tryz
namespace Go.Proofs.Tryz
open Go Go.Sym Go.Graft
set_option maxRecDepth 20000
theorem cIndexFuncS (nl : Bool) (l : List Str) (f : Nat) (caps : List PV) (hp : plainL caps = true) (q : Str → Bool) (hs : l.length ≤ 1000000000000) (hq : ∀ x ∈ l, Ctr prog f (sV x :: caps) [] (bV (q x)) [] []) : Ctr prog 79 [.sl nl 1 (l.map fun x => sV x), .clo (.func f) [] caps] [] (iV (idxP q l)) [] [] := by
 refine Ctr.enter tblOk func79 rfl (by decide) rfl (nt := 19) rfl rfl rfl rfl ?_
 refine Trip.sr tblOk ?_
 refine Trip.seq (Trip.sr tblOk ?_)
 refine Trip.block ?_
 refine Trip.loop (fun (i : Nat) => ⟨[(0, .sl nl 1 (l.map fun x => sV x)), (1, .clo (.func f) [] caps), (7, iV l.length), (8, iV i)], []⟩) (fun (i : Nat) => i ≤ l.length ∧ ∀ j, j < i → q l[j]! = false) (fun (i : Nat) => l.length - i) (0) (by exact ⟨Nat.zero_le _, fun j hj => absurd hj (by omega)⟩) (Weak.kp (ht := by repeat' (first | exact rfl | (refine vI ?_; first | omega | (simp; done) | (simp; omega) | (simp only [List.length_map] at *; omega)) | constructor)) (hu := by (show (usesOnlyL _ _ && _) = true; rw [usesOnlyL_plain (by assumption)]; rfl))) ?_
 intro i hi
 obtain ⟨hi, hj⟩ := hi
 refine Trip.sr tblOk ?_
 refine Trip.seq ?_
 apply Trip.cond (.tmp rfl)
 ·intro h
  have h : i < l.length := by simp at h; omega
  have c := hq _ (bang_mem h)
  refine Trip.skip (Trip.seq (Trip.block (Trip.sr tblOk ?_)))
  refine Trip.sR tblOk (by repeat' (first | exact rfl | (apply Rule.sem; intro hγ; with_reducible apply F_call0 (x := .tmp 11) (B := []) hγ (hspec := c)) | exact convL_plain (by assumption) | exact idx_map _ _ _ (by show _ < _; first | omega | (simp only [List.length_map] at *; omega)) | ((with_reducible refine Side.mk ?_); first | exact .inl rfl | (simp only [ln]; first | done | omega)) | constructor)) ?_
  apply Trip.cond (.tmp rfl)
  ·intro h2
   have h2 : q l[i]! = true := h2
   rw [idxP_some h hj h2]
   refine Trip.sr tblOk ?_
   refine Trip.ret (rt1 [])
  intro h2
  have h2 : q l[i]! = false := h2
  refine Trip.skip (Trip.R tblOk (by repeat' (first | exact rfl | ((with_reducible refine Side.mk ?_); omega) | constructor)) ?_)
  exact ⟨i + 1, by exact ⟨by omega, fun j h3 => (Nat.lt_succ_iff_lt_or_eq.1 h3).elim (hj j) (fun e => e ▸ h2)⟩, by first | omega | (dsimp only at *; omega), Weak.kp (hu := by (show (usesOnlyL _ _ && _) = true; rw [usesOnlyL_plain (by assumption)]; rfl))⟩
 intro h
 have h : i = l.length := by simp at h; omega
 subst h
 rw [idxP_none hj]
 refine Trip.exit (Trip.sr tblOk ?_)
 refine Trip.ret (rt1 [])
theorem cContainsFuncS (nl : Bool) (l : List Str) (f : Nat) (caps : List PV) (hp : plainL caps = true) (q : Str → Bool) (hs : l.length ≤ 1000000000000) (hq : ∀ x ∈ l, Ctr prog f (sV x :: caps) [] (bV (q x)) [] []) : Ctr prog 81 [.sl nl 1 (l.map fun x => sV x), .clo (.func f) [] caps] [] (bV (l.any q)) [] [] := by
 have c := cIndexFuncS nl l f caps hp q hs hq
 rw [← idxP_any]
 generalize idxP q l = r at *
 refine Ctr.enter tblOk func81 rfl (by decide) rfl (nt := 9) rfl rfl rfl rfl ?_
 refine Trip.sr tblOk ?_
 refine Trip.sR tblOk (by repeat' (first | exact rfl | (apply Rule.sem; intro hγ; with_reducible apply F_call0 (x := .func 79) (B := []) hγ (hspec := c)) | exact convL_plain (by assumption) | ((with_reducible refine Side.mk ?_); exact .inl rfl) | constructor)) ?_
 refine Trip.ret (rt1 [] (hc := by repeat' (exact cvB (by simp only [List.length_map]))))
theorem cIndexS (nl : Bool) (l : List Str) (x : Str) (hs : l.length ≤ 1000000000000) : Ctr prog 104 [.sl nl 1 (l.map fun x => sV x), sV x] [] (iV (idxP (fun y => decide (x = y)) l)) [] [] := by
 refine Ctr.enter tblOk func104 rfl (by decide) rfl (nt := 19) rfl rfl rfl rfl ?_
 refine Trip.sr tblOk ?_
 refine Trip.seq (Trip.sr tblOk ?_)
 refine Trip.block ?_
 refine Trip.loop (fun (i : Nat) => ⟨[(0, .sl nl 1 (l.map fun x => sV x)), (1, sV x), (7, iV l.length), (8, iV i)], []⟩) (fun (i : Nat) => i ≤ l.length ∧ ∀ j, j < i → decide (x = l[j]!) = false) (fun (i : Nat) => l.length - i) (0) (by exact ⟨Nat.zero_le _, fun j hj => absurd hj (by omega)⟩) (Weak.kp (ht := by repeat' (first | exact rfl | (refine vI ?_; first | omega | (simp; done) | (simp; omega) | (simp only [List.length_map] at *; omega)) | constructor))) ?_
 intro i hi
 obtain ⟨hi, hj⟩ := hi
 refine Trip.sr tblOk ?_
 refine Trip.seq ?_
 apply Trip.cond (.tmp rfl)
 ·intro h
  have h : i < l.length := by simp at h; omega
  refine Trip.skip (Trip.seq (Trip.block (Trip.sr tblOk ?_)))
  refine Trip.sR tblOk (by repeat' (first | exact rfl | exact idx_map _ _ _ (by show _ < _; first | omega | (simp only [List.length_map] at *; omega)) | ((with_reducible refine Side.mk ?_); (simp only [ln]; first | done | omega)) | constructor)) ?_
  apply Trip.cond (.tmp rfl)
  ·intro h2
   have h2 : decide (x = l[i]!) = true := h2
   rw [idxP_some h hj h2]
   refine Trip.sr tblOk ?_
   refine Trip.ret (rt1 [])
  intro h2
  have h2 : decide (x = l[i]!) = false := h2
  refine Trip.skip (Trip.R tblOk (by repeat' (first | exact rfl | ((with_reducible refine Side.mk ?_); omega) | constructor)) ?_)
  exact ⟨i + 1, by exact ⟨by omega, fun j h3 => (Nat.lt_succ_iff_lt_or_eq.1 h3).elim (hj j) (fun e => e ▸ h2)⟩, by first | omega | (dsimp only at *; omega), Weak.kp⟩
 intro h
 have h : i = l.length := by simp at h; omega
 subst h
 rw [idxP_none hj]
 refine Trip.exit (Trip.sr tblOk ?_)
 refine Trip.ret (rt1 [])
theorem cContainsS (nl : Bool) (l : List Str) (x : Str) (hs : l.length ≤ 1000000000000) : Ctr prog 65 [.sl nl 1 (l.map fun x => sV x), sV x] [] (bV (hasS l x)) [] [] := by
 have c := cIndexS nl l x hs
 rw [← any_hasS, ← idxP_any]
 generalize idxP (fun y => decide (x = y)) l = r at *
 refine Ctr.enter tblOk func65 rfl (by decide) rfl (nt := 9) rfl rfl rfl rfl ?_
 refine Trip.sr tblOk ?_
 refine Trip.sR tblOk (by repeat' (first | exact rfl | (apply Rule.sem; intro hγ; with_reducible apply F_call0 (x := .func 104) (B := []) hγ (hspec := c)) | ((with_reducible refine Side.mk ?_); exact .inl rfl) | constructor)) ?_
 refine Trip.ret (rt1 [] (hc := by repeat' (exact cvB (by simp only [List.length_map]))))
end Go.Proofs.Tryz
