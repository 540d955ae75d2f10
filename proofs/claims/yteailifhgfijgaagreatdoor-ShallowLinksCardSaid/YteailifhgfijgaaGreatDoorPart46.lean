/- The law holds for every input: it returns true and leaves its arguments as they were; the card ties the listed variables to the text of the program. No further conditions. -/
import Derived.Test.YteailifhgfijgaaGreatDoorPart45
import Derived.Test.YteailifhgfijgaaGreatDoorTie
import Derived.Test.YteailifhgfijgaaGreatDoorCards
import Derived.OpenShut
import Derived.SevenTiedAt
set_option linter.unusedVariables false
set_option linter.unusedSimpArgs false
namespace Go.Sym
open Go.RowKit
section
variable {P : Program} {T : Tbl} {fr : Fr} {S S' : St} {L L' : LMap} {a : Act} {w : World} {F F' : Nat → Prop} {γ : Bool}
variable {dst : Option Nat} {ty : Nat} {pos : String} {aft : Array Edge} {g : Option (Nat × Bool)}
theorem F_sliceF [Globs P] (hT : TOk P T) (hγ : γ = true) {t e : TypeId} {x hi mx : Operand} {k2 k3 : IntKind} {m : Nat} {sz : Nat} {es : List PV} {ti ei : TI} (hx : OpdO γ S x (.sl false sz es)) (h2 : OpdO γ S hi (.v (.int k2 m))) (h3 : OpdO γ S mx (.v (.int k3 m))) (hl : look T t = some ti) (htd : ti.d = .slice e)
  (he : look T e = some ei) (hb : Side (0 < m ∧ m ≤ es.length)) : FStep P ⟨dst, .slice t x none (some hi) (some mx), ty, pos, aft, g⟩ S [] ⟨.slf sz (es.take m), []⟩ := by
 refine FStep.val fun fr S' L a w ht hn hR => ?_
 have hr := hx.rep hγ hR (ht x (by simp [Op.operands]))
 have e2 := (h2.rep hγ hR (ht hi (by simp [Op.operands]))).inv_v
 have e3 := (h3.rep hγ hR (ht mx (by simp [Op.operands]))).inv_v
 obtain ⟨b1, b2⟩ : 0 < m ∧ m ≤ es.length := hb
 generalize hv : a.eval x = v at hr
 cases hr with
 | slE => simp at b2; omega
 | sl g1 g2 g3 =>
  rename_i b off n cap
  have hm := run_sliceBound (P := P) (w := w) (y := cap) (code := .slice3Acap) e3 ⟨by omega, by omega⟩
  have hj := run_sliceBound (P := P) (w := w) (y := m) (code := .slice3B) e2 ⟨by omega, by omega⟩
  refine ⟨.slice (some ⟨b, off, none⟩) m m, ?_, .slf (by rw [List.length_take]; omega) ?_⟩
  ·simp [execOp, Instr.sliceAt, Instr.slice, Instr.sliceBounds, hv, run_underlying (und_slice hT hl htd), elemSize hT he, hm, hj, Addr.add_lit]
  ·have := Rows.sub m 0 g3
   simpa using this
theorem Rep.slf_sl {L : LMap} {sz : Nat} {es : List PV} {x : Value} (h : Rep w F L (.slf sz es) x) : ∃ b off, x = .slice (some ⟨b, off, none⟩) es.length es.length ∧ Rep w F L (.sl false sz es) x := by
 cases h with
 | slf h1 h2 => subst h1; exact ⟨_, _, rfl, .sl rfl (Nat.le_refl _) h2⟩
theorem F_appendF [Globs P] (hT : TOk P T) (hγ : γ = true) {k t t2 e : Nat} {x y : Operand} {q : PV} {es xs : List PV} {rn : List Nat} {ti ti2 ei : TI} {td2 : TD} {zs : List Value} {sz by_ : Nat} (hx : OpdO γ S x (.slf sz es)) (hy : OpdO γ S y q)
  (hl : look T t = some ti) (hd : ti.d = .slice e) (hle : look T e = some ei) (hsz : ei.size = sz) (hby : ei.bytes = by_) (hz : ei.zero = some zs) (hzs : Nat.beq zs.length sz = true) (hl2 : look T t2 = some ti2) (hd2 : ti2.d = td2)
  (hk : S.obj k = none) (hsrc : SrcR S td2 sz q rn xs) (hne : Side (0 < xs.length)) (hcs : Side (cellsOkL (cellsOf xs) = true)) (hbytes : Side ((es.length + xs.length) * by_ ≤ 140737488355328)) (h63 : Side (es.length + xs.length ≤ 9223372036854775807)) :
  FStep P ⟨some k, .call { callee := .builtin .append, args := #[x, y], argTypes := #[t, t2] }, ty, pos, aft, g⟩ S (k :: rn) ⟨.osl k 0 (es ++ xs).length (es ++ xs).length, [(k, .arr sz false (es ++ xs))]⟩ := by
 intro fr S' ht hn L a w hR hG Q
 obtain ⟨d2, hu2, hd2'⟩ := und_any hT hl2
 have hsrcD : srcD d2 := by
  rw [hd2] at hd2'
  cases hsrc <;> cases d2 <;> simp [TD.of] at hd2' <;> first | exact .inl rfl | exact .inr ⟨_, rfl⟩
 subst hsz
 subst hby
 have hp := hx.rep hγ hR (fun t e => ht t (mem_tmps (x := x) (by simp [Op.operands, Call.operands]) t e))
 have hq := hy.rep hγ hR (fun t e => ht t (mem_tmps (x := y) (by simp [Op.operands, Call.operands]) t e))
 obtain ⟨news, hlen, hf1, hf2, hnews, hxs, _⟩ := hsrc.sound (P := P) hR (fun n h => hn n (by simp [h])) hq
 obtain ⟨b, off, hv, hp'⟩ := hp.slf_sl
 obtain ⟨old, _, hg1, hg2, hrold, hes, _⟩ := (SrcR.sl (S := S) (e := e)).sound (P := P) hR (by simp) hp'
 have hnl : news.length = xs.length * ei.size := by rw [← repL_length hnews, cellsOf_length hxs]
 have hu := und_slice hT hl hd
 obtain ⟨z, hzr, hzc, info, hi, hiz, his, hib⟩ := zero_of hT hle hz w
 have hzlen : zs.length = ei.size := Nat.eq_of_beq_eq_true hzs
 have hb' : (es.length + xs.length) * ei.bytes ≤ 140737488355328 := hbytes
 have h63' : es.length + xs.length ≤ 9223372036854775807 := h63
 have hne' : 0 < xs.length := hne
 have hk' := (hn k (by simp)).trans hk
 have key : ∀ v' w', (Builtin.append_ #[t, t2] ty #[a.eval x, a.eval y]).run P w = .ok v' w' →
   (execOp a.eval ⟨some k, .call { callee := .builtin .append, args := #[x, y], argTypes := #[t, t2] }, ty, pos, aft, g⟩).run P w = .ok (.value v') w' := by
  intro v' w' hr
  simp only [execOp, resolve, Sem.run_bind, Sem.run_pure, Result.andThen_ok, invoke, builtin]
  simp [hr]
 rw [hv] at hg1 hg2
 have hr := run_append_grow' (ty := ty) (base := some ⟨b, off, none⟩) (cap := es.length) hu hu2 hsrcD hi hiz hlen (by rw [his]; exact hf2) (by rw [his]; exact hg2) (by omega) h63' (by rw [hib]; exact hb')
 have hge := grownCap_ge w (es.length + xs.length) es.length e
 have hol : old.length = es.length * ei.size := by rw [← repL_length hrold, cellsOf_length hes]
 obtain ⟨L', h1, h2⟩ := R.moveArr (hR.drew) (o := k) (sz := ei.size) (cap := grownCap w (es.length + xs.length) es.length e) (es := es ++ xs) (vs := old ++ news ++ (Builtin.zeroCells z.cells (grownCap w (es.length + xs.length) es.length e - (es.length + xs.length))).toList) (fun l0 h => (hR.noL hk' l0 h).elim)
  (fun e he => (List.mem_append.1 he).elim (hes e) (hxs e))
  (by
   rw [List.length_append, List.take_left' (by rw [List.length_append, hol, hnl, Nat.add_mul]), cellsOf_append]
   have hext : Ext w (fr.F L) w.drew (fr.F L) := fun b s hx hn => ⟨sees_drew hx, hn⟩
   refine repL_of_get (by rw [List.length_append, List.length_append, repL_length hrold, repL_length hnews]) (fun j c hc => ?_)
   rw [List.getElem?_append] at hc ⊢
   rw [← repL_length hrold]
   split at hc
   ·rename_i hlt; rw [if_pos hlt]
    obtain ⟨y, g1, g2⟩ := repL_get hrold _ _ hc
    exact ⟨y, g1, g2.mono hext (LExt.refl L)⟩
   ·rename_i hlt; rw [if_neg hlt]
    obtain ⟨y, g1, g2⟩ := repL_get hnews _ _ hc
    exact ⟨y, g1, g2.mono hext (LExt.refl L)⟩)
  (by
   simp only [List.length_append, Array.length_toList, size_zeroCells', hzc, List.size_toArray, hzlen, hol, hnl, ← Nat.add_mul]
   congr 1; omega)
  (by simpa using hge) e
 unfold Oper.wp
 rw [← hv] at hr
 rw [key _ _ hr, Oper.upon_value]
 refine ⟨_, L', rfl, ?_, ?_⟩
 ·have : (old ++ news ++ (Builtin.zeroCells z.cells (grownCap w (es.length + xs.length) es.length e - (es.length + xs.length))).toList).toArray = old.toArray ++ news.toArray ++ Builtin.zeroCells z.cells (grownCap w (es.length + xs.length) es.length e - (es.length + xs.length)) := by
   apply Array.ext'; simp
  rw [this] at h1
  exact h1
 ·have := oslFull (w := w.drew.alloc (.cells (old.toArray ++ news.toArray ++ Builtin.zeroCells z.cells (grownCap w (es.length + xs.length) es.length e - (es.length + xs.length))) e)) (F := fr.F L') h2 (by simpa using hge)
  simpa using this
theorem F_appendE [Globs P] (hT : TOk P T) (hγ : γ = true) {t t2 e : Nat} {x y : Operand} {q : PV} {es xs : List PV} {rn : List Nat} {ti ti2 ei : TI} {td2 : TD} {sz : Nat} (hx : OpdO γ S x (.slf sz es)) (hy : OpdO γ S y q)
  (hl : look T t = some ti) (hd : ti.d = .slice e) (hle : look T e = some ei) (hsz : ei.size = sz) (hl2 : look T t2 = some ti2) (hd2 : ti2.d = td2) (hsrc : SrcR S td2 sz q rn xs) (hx0 : Side (xs.length = 0)) :
  FStep P ⟨dst, .call { callee := .builtin .append, args := #[x, y], argTypes := #[t, t2] }, ty, pos, aft, g⟩ S rn ⟨.sl false sz es, []⟩ := by
 refine FStep.val fun fr S' L a w ht hn hR => ?_
 obtain ⟨d2, hu2, hd2'⟩ := und_any hT hl2
 have hsrcD : srcD d2 := by
  rw [hd2] at hd2'
  cases hsrc <;> cases d2 <;> simp [TD.of] at hd2' <;> first | exact .inl rfl | exact .inr ⟨_, rfl⟩
 subst hsz
 have hp := hx.rep hγ hR (ht x (by simp [Op.operands, Call.operands]))
 have hq := hy.rep hγ hR (ht y (by simp [Op.operands, Call.operands]))
 obtain ⟨news, hlen, hf1, hf2, hnews, hxs, _⟩ := hsrc.sound (P := P) hR hn hq
 obtain ⟨b, off, hv, hp'⟩ := hp.slf_sl
 have hxe : xs = [] := List.eq_nil_of_length_eq_zero hx0
 subst hxe
 have hnil : news = [] := List.eq_nil_of_length_eq_zero (by rw [← repL_length hnews]; rfl)
 subst hnil
 have hr := run_append_room' (P := P) (ty := ty) (n := es.length) (cap := es.length) (base := some ⟨b, off, none⟩) (w' := w) (und_slice hT hl hd) hu2 hsrcD (fun w => size_of hT hle w) hlen hf1 (by simp) rfl
 refine ⟨a.eval x, ?_, hp'⟩
 simp only [execOp, resolve, Sem.run_bind, Sem.run_pure, Result.andThen_ok, invoke, builtin]
 simp only [List.length_nil, Nat.add_zero] at hr
 simp [hv, hr]
end
end Go.Sym
namespace Go.Proofs.Tryz
open Go Go.Sym Go.Graft
set_option maxRecDepth 20000
theorem rdP_len2 {v : Vw} (h : rightV v = true) (x : Str) : (rdP v.l v.cuts x).length ≤ 3000 := rdP_len _ _ _ (rightV_gives h).2.2.1
set_option maxHeartbeats 4000000 in
theorem cShallowLinks (v : Vw) (nf : Bool) (frm : List Str) (hnf : nf = true → frm = []) : Ctr prog 5 [v.pv, .sl nf 1 (frm.map fun x => sV x)] [] (bV true) [] [] := by
 have c := cLives47
 have c1 := cRight47 v
 have hg := fun h : rightV v = true => rightV_gives h
 have hg2 := fun h : rightV v = true => rdP_len2 h
 generalize rightV v = r at *
 obtain ⟨H, K, hR⟩ := reach_ex v.l v.cuts frm
 have hHl : r = true → H.length ≤ 60 := fun h => by
  have := nodup_len (b := v.l.map (·.id)) (asc_nodup hR.a1) fun x hx => by
   have hp := placed_lt ((hR.m1 x).1 hx).2
   exact List.mem_map.2 ⟨_, bang_mem hp.1, hp.2⟩
  rw [List.length_map] at this
  exact Nat.le_trans this (hg h).1
 have cd := fun (h : r = true) (hw : frm.length ≤ 8) => cReachS v nf frm (by have := (hg h).1; omega) (by have := (hg h).2.1; omega) (fun x hx => Nat.le_trans ((right_gives (hg h).2.2.2).1 x hx) (by decide)) (by omega) hnf H K hR
 have cd2 := fun (h : r = true) (hK : K = []) => cReachS v H.isEmpty H (by have := (hg h).1; omega) (by have := (hg h).2.1; omega) (fun x hx => Nat.le_trans ((right_gives (hg h).2.2.2).1 x hx) (by decide)) (by have := hHl h; omega) (fun e => List.isEmpty_iff.1 e) H [] (reach_again (hK ▸ hR))
 have cp := fun (h : r = true) (x : Str) => cParS v x (by have := (hg h).1; omega) (by have := (hg h).2.1; omega) (fun x hx => Nat.le_trans ((hg h).2.2.1 x hx) (by decide))
 obtain ⟨nl, l, nr, rf, ng, lg, nc, cuts⟩ := v
 dsimp only at *
 refine Ctr.enter tblOk func5 rfl (by decide) rfl (nt := 152) rfl rfl rfl rfl ?_
 refine Trip.sr tblOk ?_
 refine Trip.seq (Trip.sR tblOk (by repeat' (first | exact rfl | (apply Rule.sem; intro hγ; with_reducible apply F_call0 (x := .func 7) (B := []) hγ (hspec := c1)) | ((with_reducible refine Side.mk ?_); first | exact .inl rfl | exact fun h => h | exact fun _ h => congrArg Bool.not h) | constructor)) ?_)
 apply Trip.cond (.tmp rfl)
 ·intro h
  refine Trip.sR tblOk (by repeat' (first | exact rfl | (apply Rule.sem; intro hγ; with_reducible apply F_call0 (x := .func 8) (B := []) hγ (hspec := c)) | ((with_reducible refine Side.mk ?_); exact .inl rfl) | constructor)) ?_
  refine Trip.ret (rt1 [] (hc := by repeat' (exact cvB (by simp only [List.length_map]))))
 intro h
 have h : r = true ∧ frm.length ≤ 8 := by
  cases r with
  | false => simp at h
  | true => simp at h; exact ⟨rfl, by omega⟩
 obtain ⟨hr, hw⟩ := h
 have cd := cd hr hw
 have cd2 := cd2 hr
 have cp := cp hr
 have hHl := hHl hr
 have hg := hg hr
 have hg2 := hg2 hr
 refine Trip.skip ?_
 by_cases hK : K = []
 case neg =>
  rw [show rchL H K = [] from if_neg hK, show rchE K = 171 from if_neg hK] at cd
  refine Trip.sR tblOk (by repeat' (first | exact rfl | (apply Rule.sem; intro hγ; with_reducible apply F_call0 (x := .func 12) (B := []) hγ (hspec := cd)) | ((with_reducible refine Side.mk ?_); exact .inl rfl) | constructor)) ?_
  refine Trip.seq (Trip.sr tblOk ?_)
  apply Trip.cond (.tmp rfl)
  ·intro h
   refine Trip.sR tblOk (by repeat' (first | exact rfl | (apply Rule.sem; intro hγ; with_reducible apply F_call0 (x := .func 8) (B := []) hγ (hspec := c)) | ((with_reducible refine Side.mk ?_); exact .inl rfl) | constructor)) ?_
   refine Trip.ret (rt1 [] (hc := by repeat' (exact cvB (by simp))))
  intro h
  exact absurd h (by decide)
 subst hK
 have cd2 := cd2 rfl
 rw [show rchL H [] = H from if_pos rfl, show rchE [] = 0 from if_pos rfl] at cd cd2
 have hset : sortS H = H := sortS_self hR.a1
 have c16 := cSet06 H.isEmpty H (by omega)
 rw [hset] at c16
 have s1 := cSame06 H.isEmpty H.isEmpty H H (by omega) (by omega)
 have s2 := cSame06 H.isEmpty (decide (H.length = 0)) H H (by omega) (by omega)
 rw [decide_eq_true rfl] at s1 s2
 have hfrm : ∀ x ∈ frm, x ∈ H := fun x hx => (reach_in hR x).2 (.start hx)
 have hin := fun (x : Str) (hx : x ∈ H) => reach_right hR hg.2.2.2 hx
 refine Trip.rk ⟨[(1, .sl nf 1 (frm.map fun x => sV x)), (2, .ref 2 0), (5, .sl H.isEmpty 1 (H.map fun x => sV x)), (6, iV 0)], [(2, .box (Vw.cells ⟨nl, l, nr, rf, ng, lg, nc, cuts⟩))]⟩ tblOk (by repeat' (first | exact rfl | (apply Rule.sem; intro hγ; with_reducible apply F_call0 (x := .func 12) (B := []) hγ (hspec := cd)) | ((with_reducible refine Side.mk ?_); exact .inl rfl) | constructor)) Weak.kp ?_
 refine Trip.seq (Trip.sr tblOk ?_)
 apply Trip.cond (.tmp rfl)
 ·intro h
  exact absurd h (by decide)
 intro h
 clear h
 refine Trip.skip ?_
 refine Trip.rk ⟨[(1, .sl nf 1 (frm.map fun x => sV x)), (2, .ref 2 0), (5, .sl H.isEmpty 1 (H.map fun x => sV x)), (7, .sl H.isEmpty 1 (H.map fun x => sV x)), (8, iV 0)], [(2, .box (Vw.cells ⟨nl, l, nr, rf, ng, lg, nc, cuts⟩))]⟩ tblOk (by repeat' (first | exact rfl | (apply Rule.sem; intro hγ; with_reducible apply F_call0 (x := .func 12) (B := []) hγ (hspec := cd2)) | ((with_reducible refine Side.mk ?_); exact .inl rfl) | constructor)) Weak.kp ?_
 refine Trip.seq (Trip.sR tblOk (by repeat' (first | exact rfl | (apply Rule.sem; intro hγ; with_reducible apply F_call0 (dst := some 56) (x := .func 11) (B := []) hγ (hspec := s1)) | (apply Rule.sem; intro hγ; with_reducible apply F_call0 (x := .func 16) (B := []) hγ (hspec := c16)) | (apply Rule.sem; intro hγ; with_reducible apply F_call0 (dst := some 63) (x := .func 11) (B := []) hγ (hspec := s2)) | ((with_reducible refine Side.mk ?_); exact .inl rfl) | constructor)) ?_)
 apply Trip.cond (.tmp rfl)
 ·intro h
  simp at h
 intro h
 clear h
 refine Trip.skip ?_
 clear cd cd2 c1 s1 s2 c16
 refine Trip.seq (Trip.sr tblOk ?_)
 refine Trip.block ?_
 refine Trip.loop (fun (i : Nat) => ⟨[(1, .sl nf 1 (frm.map fun x => sV x)), (2, .ref 2 0), (5, .sl H.isEmpty 1 (H.map fun x => sV x)), (9, iV i)], [(2, .box (Vw.cells ⟨nl, l, nr, rf, ng, lg, nc, cuts⟩))]⟩) (fun (i : Nat) => i ≤ frm.length) (fun (i : Nat) => frm.length - i) (0) (by first | omega | (simp; done)) Weak.kp ?_
 intro i hi
 refine Trip.seq (Trip.sr tblOk ?_)
 apply Trip.cond (.tmp rfl)
 ·intro h
  have h : i < frm.length := by simp at h; omega
  have c2 := cHas06 H.isEmpty H frm[i]! (by omega)
  rw [(hasS_iff _ _).2 (hfrm _ (bang_mem h))] at c2
  refine Trip.skip (Trip.seq (Trip.block (Trip.sR tblOk (by repeat' (first | exact rfl | (apply Rule.sem; intro hγ; with_reducible apply F_call0 (x := .func 17) (B := []) hγ (hspec := c2)) | exact idx_map _ _ _ (by show _ < _; first | omega | (simp only [List.length_map] at *; omega)) | ((with_reducible refine Side.mk ?_); first | exact .inl rfl | (simp only [ln]; first | done | omega)) | constructor)) ?_)))
  apply Trip.cond (.tmp rfl)
  ·intro h2
   simp at h2
  intro h2
  clear h2
  refine Trip.skip (Trip.R tblOk (by repeat' (first | exact rfl | ((with_reducible refine Side.mk ?_); omega) | constructor)) ?_)
  exact ⟨i + 1, by first | omega | (dsimp only at *; omega), by first | omega | (dsimp only at *; omega), Weak.kp⟩
 intro h
 clear h
 refine Trip.exit (Trip.seq (Trip.sr tblOk ?_))
 refine Trip.block ?_
 refine Trip.loop (fun (i : Nat) => ⟨[(2, .ref 2 0), (5, .sl H.isEmpty 1 (H.map fun x => sV x)), (10, iV i)], [(2, .box (Vw.cells ⟨nl, l, nr, rf, ng, lg, nc, cuts⟩))]⟩) (fun (i : Nat) => i ≤ H.length) (fun (i : Nat) => H.length - i) (0) (by first | omega | (simp; done)) Weak.kp ?_
 intro i hi
 refine Trip.seq (Trip.sr tblOk ?_)
 apply Trip.cond (.tmp rfl)
 ·intro h
  have h : i < H.length := by simp at h; omega
  obtain ⟨hpl, hwe, hk3, hcut, hnm⟩ := hin _ (bang_mem h)
  have cG := cGet17 nl l H[i]! (by omega)
  rw [hpl] at cG
  simp only [if_true] at cG
  have cL := cLinks16 l[place l H[i]!]!.kind l[place l H[i]!]!.body
  rw [hwe] at cL
  have hN : namedAt l cuts H[i]! = if l[place l H[i]!]!.kind = 3 then (linksOf l[place l H[i]!]!.kind l[place l H[i]!]!.body).take 1 ++ rdP l cuts H[i]! else linksOf l[place l H[i]!]!.kind l[place l H[i]!]!.body := rfl
  have hLl := linksOf_len l[place l H[i]!]!.kind l[place l H[i]!]!.body
  have cp := cp H[i]!
  have hpsl := hg2 H[i]!
  have c17 := cHas06 nc cuts H[i]! (by have := hg.2.1; omega)
  generalize namedAt l cuts H[i]! = NM at *
  generalize l[place l H[i]!]!.kind = kk at *
  generalize l[place l H[i]!]!.body = bb at *
  generalize linksOf kk bb = LL at *
  generalize rdP l cuts H[i]! = ps at *
  generalize rdE l H[i]! = ee at *
  generalize hasS cuts H[i]! = hc at *
  obtain ⟨nn, hnn⟩ : ∃ nn, nn = if kk = 3 then false else LL.isEmpty := ⟨_, rfl⟩
  have hNMl : NM.length ≤ 2000000 := by
   rw [hN]; split
   ·rw [List.length_append, List.length_take]; omega
   ·omega
  refine Trip.skip (Trip.seq (Trip.block ?_))
  refine Trip.dk ⟨[(2, .ref 2 0), (5, .sl H.isEmpty 1 (H.map fun x => sV x)), (10, iV i), (11, .ref 11 0), (12, iV 0)], [(11, .box [iV kk, sV bb]), (2, .box (Vw.cells ⟨nl, l, nr, rf, ng, lg, nc, cuts⟩))]⟩ tblOk mixed (by repeat' (first | exact rfl | (apply Rule.sem; intro hγ; with_reducible apply F_call0 (x := .func 18) (B := []) hγ (hspec := cG)) | exact idx_map _ _ _ (by show _ < _; first | omega | (simp only [List.length_map] at *; omega)) | ((with_reducible refine Side.mk ?_); first | exact .inl rfl | (simp only [ln]; first | done | omega)) | constructor)) Weak.kp ?_
  refine Trip.rk ⟨[(2, .ref 2 0), (5, .sl H.isEmpty 1 (H.map fun x => sV x)), (10, iV i), (11, .ref 11 0), (12, iV 0), (13, .sl LL.isEmpty 1 (LL.map fun x => sV x)), (14, iV 0)], [(11, .box [iV kk, sV bb]), (2, .box (Vw.cells ⟨nl, l, nr, rf, ng, lg, nc, cuts⟩))]⟩ tblOk (by repeat' (first | exact rfl | (apply Rule.sem; intro hγ; with_reducible apply F_call0 (x := .func 19) (B := []) hγ (hspec := cL)) | ((with_reducible refine Side.mk ?_); exact .inl rfl) | constructor)) Weak.kp ?_
  refine Trip.seq (Trip.sr tblOk ?_)
  apply Trip.cond (.tmp rfl)
  ·intro h2
   exact absurd h2 (by decide)
  intro h2
  clear h2
  refine Trip.skip ?_
  refine Trip.seqk ⟨[(2, .ref 2 0), (5, .sl H.isEmpty 1 (H.map fun x => sV x)), (10, iV i), (13, .sl nn 1 (NM.map fun x => sV x))], [(2, .box (Vw.cells ⟨nl, l, nr, rf, ng, lg, nc, cuts⟩))]⟩ ?_ ?_
  ·refine Trip.sr tblOk ?_
   apply Trip.cond (.tmp rfl)
   ·intro h2
    have h2 : kk = 3 := by simpa using h2
    obtain ⟨hee, hL1⟩ := hk3 h2
    rw [hee] at cp
    rw [if_pos h2] at hN hnn
    have hLe : LL.isEmpty = false := by cases LL with | nil => simp at hL1 | cons => rfl
    rw [hLe]
    refine Trip.dk ⟨[(2, .ref 2 0), (5, .sl H.isEmpty 1 (H.map fun x => sV x)), (10, iV i), (13, .sl false 1 (LL.map fun x => sV x)), (15, .sl ps.isEmpty 1 (ps.map fun x => sV x)), (16, iV 0)], [(2, .box (Vw.cells ⟨nl, l, nr, rf, ng, lg, nc, cuts⟩))]⟩ tblOk mixed (by repeat' (first | exact rfl | (apply Rule.sem; intro hγ; with_reducible apply F_call0 (x := .func 14) (B := []) hγ (hspec := cp)) | exact idx_map _ _ _ (by show _ < _; first | omega | (simp only [List.length_map] at *; omega)) | ((with_reducible refine Side.mk ?_); first | exact .inl rfl | (simp only [ln]; first | done | omega)) | constructor)) Weak.kp ?_
    refine Trip.seq (Trip.sD tblOk mixed (by repeat' (first | exact rfl | (apply Rule.sem; intro hγ; with_reducible apply F_call0 (dst := some 131) (x := .func 17) (B := []) hγ (hspec := c17)) | exact idx_map _ _ _ (by show _ < _; first | omega | (simp only [List.length_map] at *; omega)) | ((with_reducible refine Side.mk ?_); first | exact .inl rfl | exact fun h => h | exact fun _ h => h | (simp only [ln]; first | done | omega)) | constructor)) ?_)
    apply Trip.cond (.tmp rfl)
    ·intro h3
     simp at h3
     have := hcut h3.2
     rw [this] at h3
     simp at h3
    intro h3
    clear h3
    refine Trip.skip ?_
    rw [hN, hnn]
    by_cases hps : ps = []
    ·subst hps
     refine Trip.R tblOk (by repeat' (first | exact rfl | (apply Rule.sem; intro hγ; with_reducible apply F_sliceF (m := 1) tblOk hγ) | (apply Rule.sem; intro hγ; with_reducible apply F_appendE tblOk hγ) | ((with_reducible refine Side.mk ?_); (simp only [ln]; first | done | omega)) | constructor)) ?_
     rw [List.append_nil, List.map_take]
     exact Weak.kp
    ·have hps1 : 0 < ps.length := List.length_pos_iff.2 hps
     refine Trip.R tblOk (by repeat' (first | exact rfl | (apply Rule.sem; intro hγ; with_reducible apply F_sliceF (m := 1) tblOk hγ) | (apply Rule.sem; intro hγ; with_reducible apply F_appendF tblOk hγ) | exact cellsOk_map _ (fun _ => rfl) _ | ((with_reducible refine Side.mk ?_); (simp only [ln]; first | done | omega)) | constructor)) ?_
     rw [List.map_append, List.map_take]
     refine Weak.trans (S2 := ⟨[(2, .ref 2 0), (5, .sl H.isEmpty 1 (H.map fun x => sV x)), (10, iV i), (13, .osl 137 0 ((LL.map fun x => sV x).take 1 ++ ps.map fun x => sV x).length ((LL.map fun x => sV x).take 1 ++ ps.map fun x => sV x).length)], [(137, .arr 1 false ((LL.map fun x => sV x).take 1 ++ ps.map fun x => sV x)), (2, .box (Vw.cells ⟨nl, l, nr, rf, ng, lg, nc, cuts⟩))]⟩) ?_ ?_
     ·have hp : plainL ((LL.map fun x => sV x).take 1 ++ ps.map fun x => sV x) = true := by rw [← List.map_take, ← List.map_append]; exact plainL_map _ (fun _ => rfl) _
      exact Weak.kp (huo := by repeat' (first | exact rfl | exact hp | constructor))
     ·have hp : plainL ((LL.map fun x => sV x).take 1 ++ ps.map fun x => sV x) = true := by rw [← List.map_take, ← List.map_append]; exact plainL_map _ (fun _ => rfl) _
      refine Weak.turn [137] rfl rfl ?_ ?_
      all_goals repeat' (first | exact rfl | exact hp | exact plainL_map _ (fun _ => rfl) _ | constructor)
   ·intro h2
    have h2 : ¬ kk = 3 := by simpa using h2
    rw [if_neg h2] at hN hnn
    subst hN hnn
    refine Trip.skip ?_
    exact Weak.kp
  refine Trip.sr tblOk ?_
  refine Trip.block ?_
  refine Trip.loop (fun (j : Nat) => ⟨[(2, .ref 2 0), (5, .sl H.isEmpty 1 (H.map fun x => sV x)), (10, iV i), (13, .sl nn 1 (NM.map fun x => sV x)), (17, iV j)], [(2, .box (Vw.cells ⟨nl, l, nr, rf, ng, lg, nc, cuts⟩))]⟩) (fun (j : Nat) => j ≤ NM.length) (fun (j : Nat) => NM.length - j) (0) (by first | omega | (simp; done)) Weak.kp ?_
  intro j hj
  refine Trip.seq (Trip.sr tblOk ?_)
  apply Trip.cond (.tmp rfl)
  ·intro h2
   have h2 : j < NM.length := by simp at h2; omega
   have c2 := cHas06 H.isEmpty H NM[j]! (by omega)
   rw [(hasS_iff _ _).2 (hnm _ (bang_mem h2))] at c2
   refine Trip.skip (Trip.seq (Trip.block (Trip.sR tblOk (by repeat' (first | exact rfl | (apply Rule.sem; intro hγ; with_reducible apply F_call0 (x := .func 17) (B := []) hγ (hspec := c2)) | exact idx_map _ _ _ (by show _ < _; first | omega | (simp only [List.length_map] at *; omega)) | ((with_reducible refine Side.mk ?_); first | exact .inl rfl | (simp only [ln]; first | done | omega)) | constructor)) ?_)))
   apply Trip.cond (.tmp rfl)
   ·intro h3
    simp at h3
   intro h3
   clear h3
   refine Trip.skip (Trip.R tblOk (by repeat' (first | exact rfl | ((with_reducible refine Side.mk ?_); omega) | constructor)) ?_)
   exact ⟨j + 1, by first | omega | (dsimp only at *; omega), by first | omega | (dsimp only at *; omega), Weak.kp⟩
  intro h2
  clear h2
  refine Trip.exit (Trip.R tblOk (by repeat' (first | exact rfl | ((with_reducible refine Side.mk ?_); omega) | constructor)) ?_)
  exact ⟨i + 1, by first | omega | (dsimp only at *; omega), by first | omega | (dsimp only at *; omega), Weak.kp⟩
 intro h
 clear h
 refine Trip.exit (Trip.sR tblOk (by repeat' (first | exact rfl | (apply Rule.sem; intro hγ; with_reducible apply F_call0 (x := .func 8) (B := []) hγ (hspec := c)) | ((with_reducible refine Side.mk ?_); exact .inl rfl) | constructor)) ?_)
 refine Trip.ret (rt1 [] (hc := by repeat' (exact cvB (by simp only [List.length_map]))))
end Go.Proofs.Tryz
namespace Go.Proofs.YteailifhgfijgaaGreatDoor
open Go Go.Sym Go.Graft Go.Proofs.Tryz Go.ChangeShapes Go.WideShapes Go.ChangeAt Go.RowKit
set_option maxRecDepth 100000
theorem opensLaw : OpensL Tryz.prog [29, 27] (fun (x : Vw × (Bool × List Str) × Unit) => [x.1.pv, .sl x.2.1.1 1 (x.2.1.2.map fun x => sV x)]) (fun x => True ∧ (x.2.1.1 = true → x.2.1.2 = []) ∧ True) := OpensL.cons openVwA (OpensL.cons openTxA OpensL.nil)
theorem ctrLaw : ∀ x, ((fun (x : Vw × (Bool × List Str) × Unit) => True ∧ (x.2.1.1 = true → x.2.1.2 = []) ∧ True) x) → Ctr Tryz.prog 5 ((fun (x : Vw × (Bool × List Str) × Unit) => [x.1.pv, .sl x.2.1.1 1 (x.2.1.2.map fun x => sV x)]) x) [] (bV true) [] [] := fun x h => cShallowLinks x.1 x.2.1.1 x.2.1.2 h.2.1
theorem isLaw : IsLaw Rows.shallowLinksSpec 2 := ⟨rfl, fun H ds h => by
  match ds, h with
  | [d1, d2], _ => rfl⟩
theorem liftedLaw (os : Os) (started : os.Started) (H : Type) (enc : TypeId × Value → H) :
  ReturnsInHanded {} Tryz.checked os 5 .any (fun w args => (Rows.shallowLinksSpec.pre enc Tryz.prog Tryz.f5 Rows.shallowLinksRow.domain false w args ∧ laidMetH Tryz.prog Rows.shallowLinksRow.laid w) ∧ sizedMet enc Tryz.prog Tryz.f5 (OpenSpec.ofChange Rows.shallowLinksSpec) false w args)
   (Rows.shallowLinksSpec.post enc Tryz.prog Tryz.f5 false true false false) := by
 refine lifted_of (C := Tryz.checked) (X := fun w _ => laidMetH Tryz.prog Rows.shallowLinksRow.laid w) (fun _ _ _ hh h => h.of_heap hh) own started (by kernel_rfl) Tryz.func5
  (ChangeSpec.witness_shaped (enc := enc) (C := Tryz.checked) (os := os) (X := fun w _ => laidMetH Tryz.prog Rows.shallowLinksRow.laid w) false (World.laidAll Tryz.prog os Rows.shallowLinksRow.laid) #[.agg #[.slice none 0 0, .slice none 0 0, .slice none 0 0, .slice none 0 0], .slice none 0 0] 8 (World.laidAll_os _ _ _)
   (World.shaped_of_ZipB (by kernel_rfl) (by kernel_rfl)) (by kernel_rfl) (by kernel_rfl) (by kernel_rfl)
   (by rw [MakeChecks.laidMetH_plain _ _ _ (by kernel_rfl)]; exact laidMet_laidAll _ (by kernel_rfl) (by kernel_rfl))) ?_
 intro W base args ds gs before hval hW hz hL hsh
 exact law_calls (P := Tryz.prog) (params := [29, 27]) Tryz.params5 (by kernel_rfl) Tryz.underlying4 isLaw laidOut (by kernel_rfl) opensLaw ctrLaw W (globs_of hL hsh) base args ds gs before hval hW hz
theorem shallowLinks_row : Rows.ShallowLinksSaid :=
 OpenClaim.holds_of_wide 5 Tryz.f5 rfl rfl rfl rfl rfl rfl rfl ⟨rfl, rfl, rfl, rfl, rfl⟩ rfl rfl rfl rfl rfl (by kernel_rfl) Tryz.func5 (by kernel_rfl)
  (of_decide_eq_true (by kernel_rfl)) (by unfold Func.isWrapper; first | (rw [if_pos (by decide +kernel)]; kernel_rfl) | (rw [if_neg (by decide +kernel)]; exact ⟨rfl, rfl⟩))
  (fun os started H enc _ => liftedLaw os started H enc)
theorem shallowLinks_holds : Rows.ShallowLinksCardSaid :=
 Claim7.holds_tied_plain_at .later [] [.data, .data, .data, .data, .sentinel, .sentinel, .pinned] true (true, "07c7dc9d805979d1552564cccc6a4f18f5b42aa446f0e01130177840715cdcd5") true shallowLinks_row (fun _ h => by cases h) (by kernel_rfl) (fun _ h => by cases h) shallowLinks_row_tie rfl ⟨rfl, rfl⟩ (by kernel_rfl) rfl
  (fun f fn hf hfn => by
   obtain rfl : f = 5 := Option.some.inj ((show Tryz.prog.funcNamed "graftage/graftagelaw47.ShallowLinks" = some 5 by kernel_rfl).symm.trans hf) |>.symm
   obtain rfl : fn = Tryz.f5 := (Option.some.inj (Tryz.func5.symm.trans hfn)).symm
   exact ⟨by kernel_rfl, fun j t ht => by
    rw [Tryz.params5] at ht
    have hm : t ∈ [29, 27] := by simpa using Array.mem_of_getElem? ht
    have hall : ([29, 27].all fun u => !Tryz.prog.wantsStandIn u) = true := by kernel_rfl
    exact (show Tryz.prog.wantsStandIn t = false by simpa using List.all_eq_true.1 hall t hm)⟩)
  (by kernel_rfl)
end Go.Proofs.YteailifhgfijgaaGreatDoor
