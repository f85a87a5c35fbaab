/-
  The document's star-trees: a record among others.
-/
import Derived.Test.YthmaobmgogmaoaaStcB
namespace Go.Proofs.Ythmaobmgogmaoaa
open Go.RowKit Go.Shelf
set_option linter.unusedSimpArgs false
set_option linter.unusedVariables false
set_option maxRecDepth 100000

/-- How far a record has been put. -/
def PutR (X : List PR) (y : PR) (d : Bool) (Y : List PR) (i : Nat) : Prop := if d then Y ++ X.drop i = putP X y else Y ++ putP (X.drop i) y = putP X y
theorem PutR.start (X : List PR) (y : PR) : PutR X y false [] 0 := rfl
theorem drop_get {α : Type} {l : List α} {i : Nat} {a : α} (h : l[i]? = some a) : l.drop i = a :: l.drop (i + 1) := by
  obtain ⟨hi, rfl⟩ := List.getElem?_eq_some_iff.1 h
  exact List.drop_eq_getElem_cons hi
theorem PutR.same {X : List PR} {y a : PR} {Y : List PR} {i : Nat} (h : PutR X y false Y i) (ha : X[i]? = some a) (e : a.ids = y.ids) : PutR X y true (Y ++ [mrg a y]) (i + 1) := by
  unfold PutR at h ⊢
  rw [drop_get ha, putP, if_pos e] at h
  simpa using h
theorem PutR.ahead {X : List PR} {y a : PR} {Y : List PR} {i : Nat} (h : PutR X y false Y i) (ha : X[i]? = some a) (e : ¬ a.ids = y.ids) (hl : ltI y.ids a.ids = true) : PutR X y true ((Y ++ [y]) ++ [a]) (i + 1) := by
  unfold PutR at h ⊢
  rw [drop_get ha, putP, if_neg e, if_pos hl] at h
  simpa using h
theorem PutR.behind {X : List PR} {y a : PR} {Y : List PR} {i : Nat} (h : PutR X y false Y i) (ha : X[i]? = some a) (e : ¬ a.ids = y.ids) (hl : ltI y.ids a.ids = false) : PutR X y false (Y ++ [a]) (i + 1) := by
  unfold PutR at h ⊢
  rw [drop_get ha, putP, if_neg e, if_neg (show ¬ ltI y.ids a.ids = true by rw [hl]; simp)] at h
  simpa using h
theorem PutR.done {X : List PR} {y a : PR} {Y : List PR} {i : Nat} (h : PutR X y true Y i) (ha : X[i]? = some a) : PutR X y true (Y ++ [a]) (i + 1) := by
  unfold PutR at h ⊢
  rw [drop_get ha] at h
  simpa using h
/-- An element of a list of records. -/
def ElOk (G : Ra → Prop) (w1 : World) (k mt : Nat) (w : World) (z : Ra) : Prop := (RaRd w1 z ∧ G z ∨ RaOwn w w1.heap.size z) ∧ z.ids.length = k ∧ z.ms.length = mt
theorem ElOk.keep0 {G : Ra → Prop} {w1 : World} {k mt : Nat} {w w' : World} {z : Ra} (h : ElOk G w1 k mt w z) (hk : Kp [] w w') : ElOk G w1 k mt w' z := ⟨h.1.elim .inl (fun h => .inr (h.keep0 hk)), h.2⟩
structure PutI (G : Ra → Prop) (w1 : World) (k mt : Nat) (oa : Option Addr) (oc : Nat) (YS : List Ra) (w : World) : Prop where
  own : OwnS racells 5 w w1.heap.size 34 oa oc YS
  el : ∀ z ∈ YS, ElOk G w1 k mt w z
  kp : Kp [] w1 w
theorem PutI.keep0 {G : Ra → Prop} {w1 : World} {k mt : Nat} {oa : Option Addr} {oc : Nat} {YS : List Ra} {w w' : World} (h : PutI G w1 k mt oa oc YS w) (hk : Kp [] w w') : PutI G w1 k mt oa oc YS w' := ⟨h.own.keep0 hk, fun z hz => (h.el z hz).keep0 hk, h.kp.tr hk⟩
theorem PutI.snoc {G : Ra → Prop} {w1 : World} {k mt : Nat} {oa oa' : Option Addr} {oc oc' : Nat} {YS : List Ra} {w w0 w' : World} {z : Ra} (h : PutI G w1 k mt oa oc YS w) (hk : Kp (ob oa oc) w0 w') (h0 : Kp [] w w0) (ho : OwnS racells 5 w' w1.heap.size 34 oa' oc' (YS ++ [z])) (hz : ElOk G w1 k mt w0 z) : PutI G w1 k mt oa' oc' (YS ++ [z]) w' := by
  have h1 := h.keep0 h0
  have he : ∀ x, ElOk G w1 k mt w0 x → ElOk G w1 k mt w' x := fun x hx => ⟨hx.1.elim .inl (fun g => .inr (g.keep hk (fun b hb => .inr (own_rows h1.own b hb)))), hx.2⟩
  refine ⟨ho, fun x hx => ?_, h1.kp.trans hk (by simp) (fun b hb => .inr (h1.own.ob_ge b hb).1)⟩
  rcases List.mem_append.1 hx with hx | hx
  · exact he x (h1.el x hx)
  · simp at hx; subst hx; exact he x hz
theorem PutI.rd {G : Ra → Prop} {w1 : World} {k mt : Nat} {oa : Option Addr} {oc : Nat} {YS : List Ra} {w : World} (h : PutI G w1 k mt oa oc YS w) : ∀ z ∈ YS, RaRd w z := fun z hz => (h.el z hz).1.elim (fun g => g.1.keep0 h.kp) (fun g => g.rd)
theorem PutI.g {G : Ra → Prop} {w1 : World} {k mt : Nat} {oa : Option Addr} {oc : Nat} {YS : List Ra} {w : World} (h : PutI G w1 k mt oa oc YS w) {B : Nat} (hb : B ≤ w1.heap.size) : ∀ z ∈ YS, G z ∨ RaOwn w B z := fun z hz => (h.el z hz).1.elim (fun g => .inl g.2) (fun g => .inr (g.mono hb))
theorem PutI.app {G : Ra → Prop} {w1 : World} {k mt : Nat} {oa oa' : Option Addr} {oc oc' : Nat} {YS : List Ra} {w w' : World} {z : Ra} (h : PutI G w1 k mt oa oc YS w) (hk : Kp (ob oa oc) w w') (ho : OwnS racells 5 w' w1.heap.size 34 oa' oc' (YS ++ [z])) (hz : ElOk G w1 k mt w' z) : PutI G w1 k mt oa' oc' (YS ++ [z]) w' := by
  have he : ∀ x, ElOk G w1 k mt w x → ElOk G w1 k mt w' x := fun x hx => ⟨hx.1.elim .inl (fun g => .inr (g.keep hk (fun b hb => .inr (own_rows h.own b hb)))), hx.2⟩
  refine ⟨ho, fun x hx => ?_, h.kp.trans hk (by simp) (fun b hb => .inr (h.own.ob_ge b hb).1)⟩
  rcases List.mem_append.1 hx with hx | hx
  · exact he x (h.el x hx)
  · simp at hx; subst hx; exact hz
/-- The chain of one append. -/
def MgC (B B6 : Nat) (oa : Option Addr) (oc : Nat) (YS : List Ra) (r : PR) (m : Nat) (wx : World) : Prop :=
  (m = 0 ∧ OwnS racells 5 wx B 34 oa oc YS) ∨ (m = 1 ∧ ∃ z : Ra, z.pr = r ∧ RaOwn wx B6 z ∧ OwnS racells 5 wx B 34 oa oc (YS ++ [z]))
theorem MgC.keep {B B6 : Nat} {oa : Option Addr} {oc : Nat} {YS : List Ra} {r : PR} (m : Nat) (u x : World) (h : MgC B B6 oa oc YS r m u) (k : Kp [] u x) : MgC B B6 oa oc YS r m x :=
  h.elim (fun h => .inl ⟨h.1, h.2.keep0 k⟩) (fun ⟨h1, z, h2, h3, h4⟩ => .inr ⟨h1, z, h2, h3.keep0 k, h4.keep0 k⟩)
theorem MgC.zero {B B6 : Nat} {oa : Option Addr} {oc : Nat} {YS : List Ra} {r : PR} {x : World} (h : MgC B B6 oa oc YS r 0 x) : OwnS racells 5 x B 34 oa oc YS := h.elim (fun h => h.2) (fun h => by have := h.1; omega)
theorem MgC.one {B B6 : Nat} {oa : Option Addr} {oc : Nat} {YS : List Ra} {r : PR} {x : World} (h : MgC B B6 oa oc YS r 1 x) : ∃ z : Ra, z.pr = r ∧ RaOwn x B6 z ∧ OwnS racells 5 x B 34 oa oc (YS ++ [z]) := h.elim (fun h => by have := h.1; omega) (fun h => h.2)
/-- A record that the call has made. -/
def SVS.mkd {S : List Nat} (B : Nat) (hS : ∀ x ∈ S, x < B) (r : PR) : SVS S :=
  ⟨fun v u => ∃ z : Ra, v = raV z ∧ z.pr = r ∧ RaOwn u B z, fun _ _ _ ⟨z, h1, h2, h3⟩ hk => ⟨z, h1, h2, h3.keep hk (fun b hb => .inl (hS b hb))⟩⟩
def SVS.mkd1 {S : List Nat} (B : Nat) (hS : ∀ x ∈ S, x < B) (r : PR) : SVS S :=
  ⟨fun v u => ∃ (b : Nat) (z : Ra), v = .slice (some ⟨b, 0, none⟩) 1 1 ∧ B ≤ b ∧ u.heap[b]? = some (.cells (racells z).toArray 34) ∧ z.pr = r ∧ RaOwn u B z,
   fun _ _ _ ⟨b, z, h1, h0, h2, h3, h4⟩ hk => ⟨b, z, h1, h0, hk.get h2 (fun hb => by have := hS b hb; omega), h3, h4.keep hk (fun b hb => .inl (hS b hb))⟩⟩
def SVS.grn {S : List Nat} (B : Nat) (hS : ∀ x ∈ S, x < B) (n : Nat) (YS : List Ra) (r : PR) : SVS S :=
  ⟨fun v u => ∃ ad cap, ∃ z : Ra, v = .slice ad n cap ∧ OwnS racells 5 u B 34 ad cap (YS ++ [z]) ∧ z.pr = r ∧ RaOwn u B z,
   fun _ _ _ ⟨ad, cap, z, h1, h2, h3, h4⟩ hk => ⟨ad, cap, z, h1, h2.keep hk (fun b hb hx => by have := (h2.ob_ge b hb).1; have := hS b hx; omega), h3, h4.keep hk (fun b hb => .inl (hS b hb))⟩⟩

set_option maxHeartbeats 6400000 in
theorem r19Put_anyG (G : Ra → Prop) (la : Option Addr) (ln lc : Nat) (XS : List Ra) (hln : ln = XS.length) (hlb : ln ≤ 100000) (y : Ra) (k mt : Nat) (hk : k ≤ 1000) (hmt : mt ≤ 1000) (hl : ∀ x ∈ XS, x.ids.length = k ∧ x.ms.length = mt) (hyl : y.ids.length = k ∧ y.ms.length = mt) (w : World)
    (hx : RdS racells 5 w la lc XS) (hxr : ∀ x ∈ XS, RaRd w x) (hy : RaRd w y) (hgx : ∀ x ∈ XS, G x) (hgy : G y) :
    Calls Try.prog 32 #[.slice la ln lc, raV y] w fun e w' => ∃ oa oc YS, e = .returned (.slice oa YS.length oc) ∧ OwnS racells 5 w' w.heap.size 34 oa oc YS ∧ (∀ z ∈ YS, RaRd w' z ∧ z.ids.length = k ∧ z.ms.length = mt) ∧ (∀ z ∈ YS, G z ∨ RaOwn w' w.heap.size z) ∧ YS.map Ra.pr = putP (XS.map Ra.pr) y.pr ∧ Kp [] w w' := by
  have HLN := Lib.hid hln
  have HX := Lib.hid hx
  have HXR := Lib.hid hxr
  have HY := Lib.hid hy
  have HL := Lib.hid hl
  have HYL := Lib.hid hyl
  have HGX := Lib.hid hgx
  have HGY := Lib.hid hgy
  have hcap : ln ≤ lc := by rw [hln]; exact hx.1
  have hcap2 := hx.2.1
  obtain ⟨ids, ia, ic, cnt, ms, sa, sc, ma, mc, ga, gc⟩ := y
  obtain ⟨kk, hkk⟩ : ∃ kk, kk = ids.length := ⟨_, rfl⟩
  obtain ⟨mm, hmm⟩ : ∃ mm, mm = ms.length := ⟨_, rfl⟩
  obtain ⟨X, hX⟩ : ∃ X, X = XS.map Ra.pr := ⟨_, rfl⟩
  obtain ⟨yp, hyp⟩ : ∃ yp, yp = Ra.pr ⟨ids, ia, ic, cnt, ms, sa, sc, ma, mc, ga, gc⟩ := ⟨_, rfl⟩
  rw [← hX, ← hyp]
  have HXE := Lib.hid hX
  have HYP := Lib.hid hyp
  have HKK : Hid (k = kk) := Lib.hid (by rw [hkk]; exact hyl.1.symm)
  have HKL := Lib.hid hkk
  have HML := Lib.hid hmm
  have HMM : Hid (mt = mm) := Lib.hid (by rw [hmm]; exact hyl.2.symm)
  simp only [raV]
  rw [← hkk, ← hmm]
  clear hln hx hxr hy hl hyl hkk hmm hX hyp hgx hgy
  go_enter Try.func32, Try.ntmps32
  go_upto_region 1 with (fail)
  obtain ⟨p, hp⟩ : ∃ p, p = w.heap.size := ⟨_, rfl⟩
  obtain ⟨w1, hw1⟩ : ∃ w1, w1 = w.alloc (Obj.cells #[.slice ia kk ic, .int .i64 cnt, .slice sa mm sc, .slice ma mm mc, .slice ga mm gc] 34) := ⟨_, rfl⟩
  rw [← hw1, ← hp]
  have k1 : Kp [] w w1 := by rw [hw1]; exact (Kp.refl [] w).alloc _
  have r1 : w1.heap[p]? = some (.cells #[.slice ia kk ic, .int .i64 cnt, .slice sa mm sc, .slice ma mm mc, .slice ga mm gc] 34) := by rw [hw1]; exact heap_alloc_at hp
  have R1 := Lib.hid r1
  have K1 := Lib.hid k1
  have HY1 := Lib.hid (HY.out.keep0 k1)
  clear hw1 hp r1 k1
  go_wp2_with fail
  go_loopw [5, 6, 7] (fun vo vd vi wr => ∃ (i n : Nat) (d : Bool) (oa : Option Addr) (oc : Nat) (YS : List Ra), i ≤ ln ∧ n ≤ 2 * i ∧ vi = .int .i64 i ∧ vd = .bool d ∧ vo = .slice oa n oc ∧ Hid (n = YS.length) ∧ Hid (PutR X yp d (YS.map Ra.pr) i) ∧ Hid (PutI G w1 k mt oa oc YS wr)) (fun _ _ vi _ => ln - (intOf vi).toNat)
  case atStart => exact ⟨0, 0, false, none, 0, [], Nat.zero_le _, Nat.le_refl _, rfl, rfl, rfl, Lib.hid rfl, Lib.hid (PutR.start _ _), Lib.hid ⟨OwnS.nil _ _ _ _ _, by simp, Kp.refl _ _⟩⟩
  case round =>
    obtain ⟨i, n, d, oa, oc, YS, hi, hn, rfl, rfl, rfl, HN, HP, HI⟩ := hrel
    obtain ⟨wo, rfl⟩ : ∃ wo : World, wo = wr := ⟨_, rfl⟩
    have HRW := Lib.hid (HI.out.kp.get R1.out (by simp))
    have hocb := HI.out.own.rd ralies
    have hoc : oc ≤ 9223372036854775807 := hocb.2.1
    clear hocb
    by_cases hlt : i < ln
    · have hil : i < XS.length := by rw [← HLN.out]; exact hlt
      have hkw := K1.out.tr HI.out.kp
      obtain ⟨b0, off0, rfl, hcells⟩ := (RdS.keep0 HX.out ralies.len hkw).2.2 i hil
      have hxl := HL.out _ (List.getElem_mem hil)
      have hxrd := HXR.out _ (List.getElem_mem hil)
      have hxg := HGX.out _ (List.getElem_mem hil)
      have HXI : Hid (X[i]? = some XS[i].pr) := Lib.hid (by rw [HXE.out, List.getElem?_map, List.getElem?_eq_getElem hil]; rfl)
      obtain ⟨x, hx⟩ : ∃ x, x = XS[i] := ⟨_, rfl⟩
      rw [← hx] at hcells hxl hxrd HXI hxg
      obtain ⟨xids, xia, xic, xcnt, xms, xsa, xsc, xma, xmc, xga, xgc⟩ := x
      have hrg : wo.rangeAt b0 (off0 + i * 5) [.slice xia kk xic, .int .i64 xcnt, .slice xsa mm xsc, .slice xma mm xmc, .slice xga mm xgc] := fun s v hv => by
        have hs : s < 5 := (List.getElem?_eq_some_iff.1 hv).1
        have e1 : xids.length = kk := by rw [← HKK.out]; exact hxl.1
        have e2 : xms.length = mm := by rw [← HMM.out]; exact hxl.2
        rw [hcells s hs, ← hv, ← e1, ← e2]; rfl
      have HRG := Lib.hid hrg
      have HXL : Hid (xids.length = k ∧ xms.length = mt) := Lib.hid hxl
      have HXG : Hid (G ⟨xids, xia, xic, xcnt, xms, xsa, xsc, xma, xmc, xga, xgc⟩) := Lib.hid hxg
      have HXRD : Hid (RaRd w1 ⟨xids, xia, xic, xcnt, xms, xsa, xsc, xma, xmc, xga, xgc⟩) := Lib.hid (hxrd.keep0 K1.out)
      have HAG : Hid (∀ W, Kp [] w1 W → Calls Try.prog 44 #[.slice xia kk xic, .slice ia kk ic] W fun e w' => e = .returned (.bool (decide (xids = ids))) ∧ Kp [] W w') := Lib.hid (fun W hW => r19Agree_any xia xic kk xids (by rw [← HKK.out]; exact HXL.out.1.symm) ia ic kk ids HKL.out (Nat.le_refl _) W (HXRD.out.1.keep0 hW) (HY1.out.1.keep0 hW))
      have HLS : Hid (∀ W, Kp [] w1 W → Calls Try.prog 50 #[.slice ia kk ic, .slice xia kk xic] W fun e w' => e = .returned (.bool (ltI ids xids)) ∧ Kp [] W w') := Lib.hid (fun W hW => r19less_any ia ic kk ids HKL.out xia xic xids (by rw [← HKK.out]; exact HXL.out.1.symm) W (HY1.out.1.keep0 hW) (HXRD.out.1.keep0 hW))
      have HMG : Hid (∀ W, Kp [] w1 W → Calls Try.prog 49 #[.agg #[.slice xia kk xic, .int .i64 xcnt, .slice xsa mm xsc, .slice xma mm xmc, .slice xga mm xgc], .agg #[.slice ia kk ic, .int .i64 cnt, .slice sa mm sc, .slice ma mm mc, .slice ga mm gc]] W fun e w' => ∃ z : Ra, e = .returned (raV z) ∧ z.pr = mrg ⟨xids, xcnt, xms⟩ yp ∧ RaOwn w' W.heap.size z ∧ Kp [] W w') := Lib.hid (fun W hW => by
        have e1 : xids.length = kk := by rw [← HKK.out]; exact HXL.out.1
        have e2 : xms.length = mm := by rw [← HMM.out]; exact HXL.out.2
        have := r19Merge_any ⟨xids, xia, xic, xcnt, xms, xsa, xsc, xma, xmc, xga, xgc⟩ ⟨ids, ia, ic, cnt, ms, sa, sc, ma, mc, ga, gc⟩ (by rw [e2]; exact HML.out) ⟨by rw [HXL.out.2]; exact hmt, by rw [HXL.out.1]; exact hk⟩ W (HXRD.out.keep0 hW) (HY1.out.keep0 hW)
        unfold raV at this
        dsimp only at this
        rw [e1, e2, ← HKL.out, ← HML.out, ← HYP.out] at this
        exact this)
      obtain ⟨q, hq⟩ : ∃ q, q = (!d && decide (xids = ids)) := ⟨_, rfl⟩
      have HQ := Lib.hid hq
      clear hcells hx hxl hxrd hxg hrg hil hkw hq
      go_upto_region 6 with (fail)
      go_cut [25] (fun v25 wx => v25 = .bool q ∧ Hid (Kp [] wo wx))
      case first =>
        cases d
        · obtain ⟨ag, hag⟩ : ∃ ag, ag = decide (xids = ids) := ⟨_, rfl⟩
          rw [← hag] at HAG
          have HQA : Hid (q = ag) := Lib.hid (by rw [HQ.out, hag]; rfl)
          clear hag
          refine wp_region_K (by kernel_rfl) [.val (.bool false), .val (.bool true), .val (.bool true), .val (.slice (some ⟨b0, off0, none⟩) ln lc), .val (.int .i64 (i : Int)), .val (.pointer (some ⟨b0, off0 + i * 5, none⟩)), .val (.pointer (some ⟨b0, off0 + i * 5, none⟩)), .val (.slice xia kk xic), .val (.pointer (some ⟨p, 0, none⟩)), .val (.slice ia kk ic), .val (.bool ag), .val (.bool ag)] [[(6, none)], [(14, some 0)], [(15, some 1)], [(16, some 2), (0, none)], [(16, some 2), (7, none)], [(16, some 2), (17, some 3), (18, some 4)], [(16, some 2), (19, some 5)], [(16, some 2), (20, some 6)], [(16, some 2), (3, none)], [(16, some 2), (22, some 8)], [(16, some 2), (21, some 7), (23, some 9)], [(16, some 2), (24, some 10)]] rfl (by kernel_rfl) ?_ ?_
          · refine ⟨?o0, ?o1, ?o2, ?o3, ?o4, ?o5, ?o6, ?o7, ?o8, ?o9, ?o10, ?o11, trivial⟩
            case o0 => intro aR wR hR; replace hR := hR.undrew; intro (h6 : aR.tmps[6]? = some (.bool false)); exact exec_val (c := .bool false) (wanted_none rfl) (by go_simp) rfl
            case o1 => intro aR wR hR; replace hR := hR.undrew; intro v14 h14 e14; replace e14 : v14 = .bool false := e14; subst e14; exact exec_val (c := .bool true) (wanted_none rfl) (by go_simp) rfl
            case o2 => intro aR wR hR; replace hR := hR.undrew; intro v15 h15 e15; replace e15 : v15 = .bool true := e15; subst e15; exact exec_val (c := .bool true) (wanted_none rfl) (by go_simp) rfl
            case o3 => intro aR wR hR; replace hR := hR.undrew; intro v16 h16 e16; replace e16 : v16 = .bool true := e16; subst e16; intro (h0 : aR.tmps[0]? = some (.slice (some ⟨b0, off0, none⟩) ln lc)); exact exec_val (c := .slice (some ⟨b0, off0, none⟩) ln lc) (wanted_yes (b := true) (t := 16) rfl rfl h16) (by go_simp) rfl
            case o4 => intro aR wR hR; replace hR := hR.undrew; intro v16 h16 e16; replace e16 : v16 = .bool true := e16; subst e16; intro (h7 : aR.tmps[7]? = some (.int .i64 (i : Int))); exact exec_val (c := .int .i64 (i : Int)) (wanted_yes (b := true) (t := 16) rfl rfl h16) (by go_simp) rfl
            case o5 => intro aR wR hR; replace hR := hR.undrew; intro v16 h16 e16; replace e16 : v16 = .bool true := e16; subst e16; intro v17 h17 e17; replace e17 : v17 = .slice (some ⟨b0, off0, none⟩) ln lc := e17; subst e17; intro v18 h18 e18; replace e18 : v18 = .int .i64 (i : Int) := e18; subst e18; exact exec_val (c := .pointer (some ⟨b0, off0 + i * 5, none⟩)) (wanted_yes (b := true) (t := 16) rfl rfl h16) (by go_simp) rfl
            case o6 => intro aR wR hR; replace hR := hR.undrew; intro v16 h16 e16; replace e16 : v16 = .bool true := e16; subst e16; intro v19 h19 e19; replace e19 : v19 = .pointer (some ⟨b0, off0 + i * 5, none⟩) := e19; subst e19; exact exec_val (c := .pointer (some ⟨b0, off0 + i * 5, none⟩)) (wanted_yes (b := true) (t := 16) rfl rfl h16) (by go_simp) rfl
            case o7 => intro aR wR hR; replace hR := hR.undrew; intro v16 h16 e16; replace e16 : v16 = .bool true := e16; subst e16; intro v20 h20 e20; replace e20 : v20 = .pointer (some ⟨b0, off0 + i * 5, none⟩) := e20; subst e20; (have h1 : wR.cell? ⟨b0, off0 + i * 5, none⟩ = some (.slice xia kk xic) := range_keep HRG.out hR 0 _ rfl); exact exec_val (c := .slice xia kk xic) (wanted_yes (b := true) (t := 16) rfl rfl h16) (by go_simp) rfl
            case o8 => intro aR wR hR; replace hR := hR.undrew; intro v16 h16 e16; replace e16 : v16 = .bool true := e16; subst e16; intro (h3 : aR.tmps[3]? = some (.pointer (some ⟨p, 0, none⟩))); exact exec_val (c := .pointer (some ⟨p, 0, none⟩)) (wanted_yes (b := true) (t := 16) rfl rfl h16) (by go_simp) rfl
            case o9 => intro aR wR hR; replace hR := hR.undrew; intro v16 h16 e16; replace e16 : v16 = .bool true := e16; subst e16; intro v22 h22 e22; replace e22 : v22 = .pointer (some ⟨p, 0, none⟩) := e22; subst e22; (have h1 := arow_cell (hR.get HRW.out (by simp)) 0 rfl); exact exec_val (c := .slice ia kk ic) (wanted_yes (b := true) (t := 16) rfl rfl h16) (by go_simp) rfl
            case o10 => intro aR wR hR; replace hR := hR.undrew; intro v16 h16 e16; replace e16 : v16 = .bool true := e16; subst e16; intro v21 h21 e21; replace e21 : v21 = .slice xia kk xic := e21; subst e21; intro v23 h23 e23; replace e23 : v23 = .slice ia kk ic := e23; subst e23; refine exec_call (wanted_yes (b := true) (t := 16) rfl rfl h16) (by go_simp; exact ⟨rfl, rfl⟩) ?_; refine (HAG.out wR (HI.out.kp.tr hR)).mono ?_; rintro e7 w8 ⟨rfl, kp8⟩; exact ⟨_, rfl, rfl, kp8⟩
            case o11 => intro aR wR hR; replace hR := hR.undrew; intro v16 h16 e16; replace e16 : v16 = .bool true := e16; subst e16; intro v24 h24 e24; replace e24 : v24 = .bool ag := e24; subst e24; exact exec_val (c := .bool ag) (wanted_none rfl) (by go_simp) rfl
          · intro vs wR hR hV
            obtain ⟨e0, e1, e2, e3, e4, e5, e6, e7, e8, e9, e10, e11, -⟩ := hV
            replace e0 : vs 0 = .bool false := e0
            replace e1 : vs 1 = .bool true := e1
            replace e2 : vs 2 = .bool true := e2
            replace e3 : vs 3 = .slice (some ⟨b0, off0, none⟩) ln lc := e3
            replace e4 : vs 4 = .int .i64 (i : Int) := e4
            replace e5 : vs 5 = .pointer (some ⟨b0, off0 + i * 5, none⟩) := e5
            replace e6 : vs 6 = .pointer (some ⟨b0, off0 + i * 5, none⟩) := e6
            replace e7 : vs 7 = .slice xia kk xic := e7
            replace e8 : vs 8 = .pointer (some ⟨p, 0, none⟩) := e8
            replace e9 : vs 9 = .slice ia kk ic := e9
            replace e10 : vs 10 = .bool ag := e10
            replace e11 : vs 11 = .bool ag := e11
            simp only [putAll, e0, e1, e2, e3, e4, e5, e6, e7, e8, e9, e10, e11, Nat.reduceAdd, Nat.zero_add]
            clear e0 e1 e2 e3 e4 e5 e6 e7 e8 e9 e10 e11
            try simp only [List.setIfInBounds_toArray, List.set_cons_succ, List.set_cons_zero]
            go_wp2_with fail
            go_meet
            exact ⟨by rw [HQA.out], Lib.hid hR⟩
        · have HQA : Hid (q = false) := Lib.hid (by rw [HQ.out]; rfl)
          refine wp_region_K (by kernel_rfl) [.val (.bool true), .val (.bool false), .val (.bool false), .val (undef), .val (undef), .val (undef), .val (undef), .val (undef), .val (undef), .val (undef), .val (undef), .val ((.bool false))] [[(6, none)], [(14, some 0)], [(15, some 1)], [(16, some 2)], [(16, some 2)], [(16, some 2)], [(16, some 2)], [(16, some 2)], [(16, some 2)], [(16, some 2)], [(16, some 2)], [(16, some 2), (24, some 10)]] rfl (by kernel_rfl) ?_ ?_
          · refine ⟨?o0, ?o1, ?o2, ?o3, ?o4, ?o5, ?o6, ?o7, ?o8, ?o9, ?o10, ?o11, trivial⟩
            case o0 => intro aR wR hR; replace hR := hR.undrew; intro (h6 : aR.tmps[6]? = some (.bool true)); exact exec_val (c := .bool true) (wanted_none rfl) (by go_simp) rfl
            case o1 => intro aR wR hR; replace hR := hR.undrew; intro v14 h14 e14; replace e14 : v14 = .bool true := e14; subst e14; exact exec_val (c := .bool false) (wanted_none rfl) (by go_simp) rfl
            case o2 => intro aR wR hR; replace hR := hR.undrew; intro v15 h15 e15; replace e15 : v15 = .bool false := e15; subst e15; exact exec_val (c := .bool false) (wanted_none rfl) (by go_simp) rfl
            case o3 => intro aR wR hR; replace hR := hR.undrew; intro v16 h16 e16; replace e16 : v16 = .bool false := e16; subst e16; exact exec_pass (wanted_not (b := true) (t := 16) rfl rfl h16) rfl
            case o4 => intro aR wR hR; replace hR := hR.undrew; intro v16 h16 e16; replace e16 : v16 = .bool false := e16; subst e16; exact exec_pass (wanted_not (b := true) (t := 16) rfl rfl h16) rfl
            case o5 => intro aR wR hR; replace hR := hR.undrew; intro v16 h16 e16; replace e16 : v16 = .bool false := e16; subst e16; exact exec_pass (wanted_not (b := true) (t := 16) rfl rfl h16) rfl
            case o6 => intro aR wR hR; replace hR := hR.undrew; intro v16 h16 e16; replace e16 : v16 = .bool false := e16; subst e16; exact exec_pass (wanted_not (b := true) (t := 16) rfl rfl h16) rfl
            case o7 => intro aR wR hR; replace hR := hR.undrew; intro v16 h16 e16; replace e16 : v16 = .bool false := e16; subst e16; exact exec_pass (wanted_not (b := true) (t := 16) rfl rfl h16) rfl
            case o8 => intro aR wR hR; replace hR := hR.undrew; intro v16 h16 e16; replace e16 : v16 = .bool false := e16; subst e16; exact exec_pass (wanted_not (b := true) (t := 16) rfl rfl h16) rfl
            case o9 => intro aR wR hR; replace hR := hR.undrew; intro v16 h16 e16; replace e16 : v16 = .bool false := e16; subst e16; exact exec_pass (wanted_not (b := true) (t := 16) rfl rfl h16) rfl
            case o10 => intro aR wR hR; replace hR := hR.undrew; intro v16 h16 e16; replace e16 : v16 = .bool false := e16; subst e16; exact exec_pass (wanted_not (b := true) (t := 16) rfl rfl h16) rfl
            case o11 => intro aR wR hR; replace hR := hR.undrew; intro v16 h16 e16; replace e16 : v16 = .bool false := e16; subst e16; intro v24 h24 e24; replace e24 : v24 = undef := e24; subst e24; exact exec_val (c := (.bool false)) (wanted_none rfl) (by go_simp) rfl
          · intro vs wR hR hV
            obtain ⟨e0, e1, e2, e3, e4, e5, e6, e7, e8, e9, e10, e11, -⟩ := hV
            replace e0 : vs 0 = .bool true := e0
            replace e1 : vs 1 = .bool false := e1
            replace e2 : vs 2 = .bool false := e2
            replace e3 : vs 3 = undef := e3
            replace e4 : vs 4 = undef := e4
            replace e5 : vs 5 = undef := e5
            replace e6 : vs 6 = undef := e6
            replace e7 : vs 7 = undef := e7
            replace e8 : vs 8 = undef := e8
            replace e9 : vs 9 = undef := e9
            replace e10 : vs 10 = undef := e10
            replace e11 : vs 11 = (.bool false) := e11
            simp only [putAll, e0, e1, e2, e3, e4, e5, e6, e7, e8, e9, e10, e11, Nat.reduceAdd, Nat.zero_add]
            clear e0 e1 e2 e3 e4 e5 e6 e7 e8 e9 e10 e11
            try simp only [List.setIfInBounds_toArray, List.set_cons_succ, List.set_cons_zero]
            go_wp2_with fail
            go_meet
            exact ⟨by rw [HQA.out], Lib.hid hR⟩
      obtain ⟨rfl, HK6⟩ := hcut
      obtain ⟨w6, rfl⟩ : ∃ w6 : World, w6 = wc := ⟨_, rfl⟩
      have HI6 := Lib.hid (HI.out.keep0 HK6.out)
      have HKD : Hid (∀ W, Kp (ob oa oc) w6 W → Kp [] w1 W) := Lib.hid (fun W hW => HI6.out.kp.trans hW (by simp) (fun b hb => .inr (HI6.out.own.ob_ge b hb).1))
      have HRGS : Hid (∀ W, Kp [] w1 W → W.rangeAt b0 (off0 + i * 5) [.slice xia kk xic, .int .i64 xcnt, .slice xsa mm xsc, .slice xma mm xmc, .slice xga mm xgc]) := Lib.hid (fun W hW => by
        obtain ⟨b9, o9, q9, hc9⟩ := (RdS.keep0 HX.out ralies.len (K1.out.tr hW)).2.2 i (by rw [← HLN.out]; exact hlt)
        cases q9
        intro s v hv
        have h1 := (RdS.keep0 HX.out ralies.len K1.out).2.2 i (by rw [← HLN.out]; exact hlt)
        have h2 := HRG.out s v hv
        have hs : s < 5 := (List.getElem?_eq_some_iff.1 hv).1
        have h3 := hc9 s hs
        obtain ⟨b8, o8, q8, hc8⟩ := (RdS.keep0 HX.out ralies.len (K1.out.tr HI.out.kp)).2.2 i (by rw [← HLN.out]; exact hlt)
        cases q8
        rw [h3, ← hc8 s hs]; exact h2)
      have HRPS : Hid (∀ W, Kp [] w1 W → W.heap[p]? = some (.cells #[.slice ia kk ic, .int .i64 cnt, .slice sa mm sc, .slice ma mm mc, .slice ga mm gc] 34)) := Lib.hid (fun W hW => hW.get R1.out (by simp))
      have hn2 : n + 2 ≤ 300000 := by omega
      cases q
      rotate_left
      · have hd2 : d = false ∧ xids = ids := by
          have := HQ.out
          cases d
          · exact ⟨rfl, by simpa using this.symm⟩
          · simp at this
        obtain ⟨rfl, hsame⟩ := hd2
        have HPN : Hid (PutR X yp true (YS.map Ra.pr ++ [mrg ⟨xids, xcnt, xms⟩ yp]) (i + 1)) := Lib.hid (HP.out.same HXI.out (by rw [HYP.out]; exact hsame))
        have HML2 : Hid (∀ z : Ra, z.pr = mrg ⟨xids, xcnt, xms⟩ yp → z.ids.length = k ∧ z.ms.length = mt) := Lib.hid (fun z hz => by
          have e1 : z.ids = xids := congrArg PR.ids hz
          have e2 : z.ms = List.zipWith mrg1 xms yp.ms := congrArg PR.ms hz
          rw [e1, e2, List.length_zipWith, HXL.out.1, HXL.out.2, HYP.out]
          refine ⟨rfl, ?_⟩
          show min mt ms.length = mt
          rw [← HML.out, HMM.out, Nat.min_self])
        clear hsame
        go_upto_region 7 with (fail)
        by_cases hroom : n + 1 ≤ oc
        · have HLT : ∀ x ∈ ob oa oc, x < w6.heap.size := fun x hx => (HI6.out.own.ob_ge x hx).2
          refine wp_region_GS (by kernel_rfl) (ob oa oc) [.val (.slice oa n oc), .val (.slice (some ⟨b0, off0, none⟩) ln lc), .val (.int .i64 (i : Int)), .val (.pointer (some ⟨b0, off0 + i * 5, none⟩)), .val (.agg #[.slice xia kk xic, .int .i64 xcnt, .slice xsa mm xsc, .slice xma mm xmc, .slice xga mm xgc]), .val (.agg #[.slice ia kk ic, .int .i64 cnt, .slice sa mm sc, .slice ma mm mc, .slice ga mm gc]), .mkd w6.heap.size HLT (mrg ⟨xids, xcnt, xms⟩ yp), .mkd1 w6.heap.size HLT (mrg ⟨xids, xcnt, xms⟩ yp), .val (.slice oa (n + 1) oc), .val (.slice oa (n + 1) oc)] [[(5, none)], [(0, none)], [(7, none)], [(27, some 1), (28, some 2)], [(29, some 3)], [(3, none)], [(30, some 4), (31, some 5)], [(32, some 6)], [(26, some 0), (33, some 7)], [(34, some 8)]] [8] (MgC w1.heap.size w6.heap.size oa oc YS (mrg ⟨xids, xcnt, xms⟩ yp)) 10 rfl (by kernel_rfl) (by kernel_rfl) (by kernel_rfl) (by kernel_rfl) (by kernel_rfl) (by simp) MgC.keep (.inl ⟨rfl, HI6.out.own⟩) ?_ ?_
          · refine (ObG.free rfl ?o0 (ObG.free rfl ?o1 (ObG.free rfl ?o2 (ObG.free rfl ?o3 (ObG.free rfl ?o4 (ObG.free rfl ?o5 (ObG.free rfl ?o6 (ObG.free rfl ?o7 (ObG.chain 0 rfl ?o8 (ObG.free rfl ?o9 trivial))))))))))
            case o0 => intro aR wR mR hR hI; replace hR := hR.undrew; intro (h5 : aR.tmps[5]? = some (.slice oa n oc)); exact exec_val (c := .slice oa n oc) (wanted_none rfl) (by go_simp) rfl
            case o1 => intro aR wR mR hR hI; replace hR := hR.undrew; intro (h0 : aR.tmps[0]? = some (.slice (some ⟨b0, off0, none⟩) ln lc)); exact exec_val (c := .slice (some ⟨b0, off0, none⟩) ln lc) (wanted_none rfl) (by go_simp) rfl
            case o2 => intro aR wR mR hR hI; replace hR := hR.undrew; intro (h7 : aR.tmps[7]? = some (.int .i64 (i : Int))); exact exec_val (c := .int .i64 (i : Int)) (wanted_none rfl) (by go_simp) rfl
            case o3 => intro aR wR mR hR hI; replace hR := hR.undrew; intro v27 h27 e27; replace e27 : v27 = .slice (some ⟨b0, off0, none⟩) ln lc := e27; subst e27; intro v28 h28 e28; replace e28 : v28 = .int .i64 (i : Int) := e28; subst e28; exact exec_val (c := .pointer (some ⟨b0, off0 + i * 5, none⟩)) (wanted_none rfl) (by go_simp) rfl
            case o4 => intro aR wR mR hR hI; replace hR := hR.undrew; intro v29 h29 e29; replace e29 : v29 = .pointer (some ⟨b0, off0 + i * 5, none⟩) := e29; subst e29; exact exec_val (c := .agg #[.slice xia kk xic, .int .i64 xcnt, .slice xsa mm xsc, .slice xma mm xmc, .slice xga mm xgc]) (wanted_none rfl) (exec_ld rfl (b := b0) (o := off0 + i * 5) (by go_simp) (HRGS.out wR (HKD.out wR hR)) Try.underlying34 rfl (by kernel_rfl)) rfl
            case o5 => intro aR wR mR hR hI; replace hR := hR.undrew; intro (h3 : aR.tmps[3]? = some (.pointer (some ⟨p, 0, none⟩))); exact exec_val (c := .agg #[.slice ia kk ic, .int .i64 cnt, .slice sa mm sc, .slice ma mm mc, .slice ga mm gc]) (wanted_none rfl) (exec_ld rfl (b := p) (o := 0) (by go_simp) (range_row (HRPS.out wR (HKD.out wR hR))) Try.underlying34 rfl (by kernel_rfl)) rfl
            case o6 => intro aR wR mR hR hI; replace hR := hR.undrew; intro v30 h30 e30; replace e30 : v30 = .agg #[.slice xia kk xic, .int .i64 xcnt, .slice xsa mm xsc, .slice xma mm xmc, .slice xga mm xgc] := e30; subst e30; intro v31 h31 e31; replace e31 : v31 = .agg #[.slice ia kk ic, .int .i64 cnt, .slice sa mm sc, .slice ma mm mc, .slice ga mm gc] := e31; subst e31; refine exec_call (wanted_none rfl) (by go_simp; exact ⟨rfl, rfl⟩) ?_; refine (HMG.out wR (HKD.out wR hR)).mono ?_; rintro e7 w8 ⟨z, rfl, hz, ho, kp8⟩; exact ⟨_, rfl, ⟨z, rfl, hz, ho.mono hR.size⟩, kp8⟩
            case o7 => intro aR wR mR hR hI; replace hR := hR.undrew; intro v32 h32 e32; obtain ⟨z, rfl, hz, ho⟩ := e32; simp only [raV] at h32; exact exec_do (c := .slice (some ⟨wR.heap.size, 0, none⟩) 1 1) (w' := wR.alloc (.cells (racells z).toArray 34)) (wanted_none rfl) (by go_simp; rfl) ⟨_, z, rfl, hR.size, heap_alloc_at rfl, hz, ho.keep0 ((Kp.refl [] _).alloc _)⟩ ((Kp.refl [] _).alloc _)
            case o8 => intro aR wR hR hI; replace hR := hR.undrew; intro v26 h26 e26; replace e26 : v26 = .slice oa n oc := e26; subst e26; intro v33 h33 e33; obtain ⟨b, z, rfl, hb, hrow, hz, ho⟩ := e33; exact execS_room ralies (wanted_none rfl) (.tmp 26) (.tmp 33) 50 50 rfl w1.heap.size 34 (.agg #[.slice none 0 0, .int .i64 0, .slice none 0 0, .slice none 0 0, .slice none 0 0]) 104 Try.underlying50 infoRecA rfl oa oc n YS HN.out [z] _ 1 rfl (by go_simp) (by go_simp) (MgC.zero hI) (src_oneS ralies (x := z) Try.underlying50 hrow) hroom (fun w' g1 g2 => ⟨rfl, g2, .inr ⟨rfl, z, hz, ho.keep g2 (fun b hb => .inr (own_rows (MgC.zero hI) b hb)), g1⟩⟩)
            case o9 => intro aR wR mR hR hI; replace hR := hR.undrew; intro v34 h34 e34; replace e34 : v34 = .slice oa (n + 1) oc := e34; subst e34; exact exec_val (c := .slice oa (n + 1) oc) (wanted_none rfl) (by go_simp) rfl
          · intro vs wR hR hI hV
            obtain ⟨e0, e1, e2, e3, e4, e5, e6, e7, e8, e9, -⟩ := hV
            replace e0 : vs 0 = .slice oa n oc := e0
            replace e1 : vs 1 = .slice (some ⟨b0, off0, none⟩) ln lc := e1
            replace e2 : vs 2 = .int .i64 (i : Int) := e2
            replace e3 : vs 3 = .pointer (some ⟨b0, off0 + i * 5, none⟩) := e3
            replace e4 : vs 4 = .agg #[.slice xia kk xic, .int .i64 xcnt, .slice xsa mm xsc, .slice xma mm xmc, .slice xga mm xgc] := e4
            replace e5 : vs 5 = .agg #[.slice ia kk ic, .int .i64 cnt, .slice sa mm sc, .slice ma mm mc, .slice ga mm gc] := e5
            replace e8 : vs 8 = .slice oa (n + 1) oc := e8
            replace e9 : vs 9 = .slice oa (n + 1) oc := e9
            simp only [putAll, List.take_succ_cons, List.take_zero, List.drop_succ_cons, List.drop_zero, e0, e1, e2, e3, e4, e5, e8, e9, Nat.reduceAdd, Nat.zero_add]
            clear e0 e1 e2 e3 e4 e5 e8 e9
            try simp only [List.setIfInBounds_toArray, List.set_cons_succ, List.set_cons_zero]
            refine wpList_nil ?_
            obtain ⟨z, hz, ho, hown⟩ := MgC.one hI
            have HIN := Lib.hid (HI6.out.app hR hown ⟨.inr (ho.mono HI6.out.kp.size), HML2.out z hz⟩)
            have HPZ : Hid (PutR X yp true ((YS ++ [z]).map Ra.pr) (i + 1)) := Lib.hid (by rw [List.map_append]; simp only [List.map_cons, List.map_nil]; rw [hz]; exact HPN.out)
            generalize vs 6 = v6
            generalize vs 7 = v7
            clear hI hR hown ho hz
            clear e6 e7
            clear HLT
            go_wp2_with fail
            go_roundw
            case rel => exact ⟨i + 1, n + 1, true, oa, oc, YS ++ [z], hlt, by omega, by go_num, rfl, by go_num, Lib.hid (by rw [List.length_append, ← HN.out]; rfl), HPZ, HIN⟩
            case measure => simp [intOf]; omega
        · have hS0 : ∀ x ∈ ([] : List Nat), x < w6.heap.size := by simp
          refine wp_region_GS (by kernel_rfl) [] [.val (.slice oa n oc), .val (.slice (some ⟨b0, off0, none⟩) ln lc), .val (.int .i64 (i : Int)), .val (.pointer (some ⟨b0, off0 + i * 5, none⟩)), .val (.agg #[.slice xia kk xic, .int .i64 xcnt, .slice xsa mm xsc, .slice xma mm xmc, .slice xga mm xgc]), .val (.agg #[.slice ia kk ic, .int .i64 cnt, .slice sa mm sc, .slice ma mm mc, .slice ga mm gc]), .mkd w6.heap.size hS0 (mrg ⟨xids, xcnt, xms⟩ yp), .mkd1 w6.heap.size hS0 (mrg ⟨xids, xcnt, xms⟩ yp), .grn w6.heap.size hS0 (n + 1) YS (mrg ⟨xids, xcnt, xms⟩ yp), .grn w6.heap.size hS0 (n + 1) YS (mrg ⟨xids, xcnt, xms⟩ yp)] [[(5, none)], [(0, none)], [(7, none)], [(27, some 1), (28, some 2)], [(29, some 3)], [(3, none)], [(30, some 4), (31, some 5)], [(32, some 6)], [(26, some 0), (33, some 7)], [(34, some 8)]] [] (fun _ _ => True) 10 rfl (by kernel_rfl) (by kernel_rfl) (by kernel_rfl) (by kernel_rfl) (by kernel_rfl) (by simp) (fun _ _ _ h _ => h) trivial ?_ ?_
          · refine (ObG.free rfl ?o0 (ObG.free rfl ?o1 (ObG.free rfl ?o2 (ObG.free rfl ?o3 (ObG.free rfl ?o4 (ObG.free rfl ?o5 (ObG.free rfl ?o6 (ObG.free rfl ?o7 (ObG.free rfl ?o8 (ObG.free rfl ?o9 trivial))))))))))
            case o0 => intro aR wR mR hR hI; replace hR := hR.undrew; intro (h5 : aR.tmps[5]? = some (.slice oa n oc)); exact exec_val (c := .slice oa n oc) (wanted_none rfl) (by go_simp) rfl
            case o1 => intro aR wR mR hR hI; replace hR := hR.undrew; intro (h0 : aR.tmps[0]? = some (.slice (some ⟨b0, off0, none⟩) ln lc)); exact exec_val (c := .slice (some ⟨b0, off0, none⟩) ln lc) (wanted_none rfl) (by go_simp) rfl
            case o2 => intro aR wR mR hR hI; replace hR := hR.undrew; intro (h7 : aR.tmps[7]? = some (.int .i64 (i : Int))); exact exec_val (c := .int .i64 (i : Int)) (wanted_none rfl) (by go_simp) rfl
            case o3 => intro aR wR mR hR hI; replace hR := hR.undrew; intro v27 h27 e27; replace e27 : v27 = .slice (some ⟨b0, off0, none⟩) ln lc := e27; subst e27; intro v28 h28 e28; replace e28 : v28 = .int .i64 (i : Int) := e28; subst e28; exact exec_val (c := .pointer (some ⟨b0, off0 + i * 5, none⟩)) (wanted_none rfl) (by go_simp) rfl
            case o4 => intro aR wR mR hR hI; replace hR := hR.undrew; intro v29 h29 e29; replace e29 : v29 = .pointer (some ⟨b0, off0 + i * 5, none⟩) := e29; subst e29; exact exec_val (c := .agg #[.slice xia kk xic, .int .i64 xcnt, .slice xsa mm xsc, .slice xma mm xmc, .slice xga mm xgc]) (wanted_none rfl) (exec_ld rfl (b := b0) (o := off0 + i * 5) (by go_simp) (HRGS.out wR (HI6.out.kp.tr hR)) Try.underlying34 rfl (by kernel_rfl)) rfl
            case o5 => intro aR wR mR hR hI; replace hR := hR.undrew; intro (h3 : aR.tmps[3]? = some (.pointer (some ⟨p, 0, none⟩))); exact exec_val (c := .agg #[.slice ia kk ic, .int .i64 cnt, .slice sa mm sc, .slice ma mm mc, .slice ga mm gc]) (wanted_none rfl) (exec_ld rfl (b := p) (o := 0) (by go_simp) (range_row (HRPS.out wR (HI6.out.kp.tr hR))) Try.underlying34 rfl (by kernel_rfl)) rfl
            case o6 => intro aR wR mR hR hI; replace hR := hR.undrew; intro v30 h30 e30; replace e30 : v30 = .agg #[.slice xia kk xic, .int .i64 xcnt, .slice xsa mm xsc, .slice xma mm xmc, .slice xga mm xgc] := e30; subst e30; intro v31 h31 e31; replace e31 : v31 = .agg #[.slice ia kk ic, .int .i64 cnt, .slice sa mm sc, .slice ma mm mc, .slice ga mm gc] := e31; subst e31; refine exec_call (wanted_none rfl) (by go_simp; exact ⟨rfl, rfl⟩) ?_; refine (HMG.out wR (HI6.out.kp.tr hR)).mono ?_; rintro e7 w8 ⟨z, rfl, hz, ho, kp8⟩; exact ⟨_, rfl, ⟨z, rfl, hz, ho.mono hR.size⟩, kp8⟩
            case o7 => intro aR wR mR hR hI; replace hR := hR.undrew; intro v32 h32 e32; obtain ⟨z, rfl, hz, ho⟩ := e32; simp only [raV] at h32; exact exec_do (c := .slice (some ⟨wR.heap.size, 0, none⟩) 1 1) (w' := wR.alloc (.cells (racells z).toArray 34)) (wanted_none rfl) (by go_simp; rfl) ⟨_, z, rfl, hR.size, heap_alloc_at rfl, hz, ho.keep0 ((Kp.refl [] _).alloc _)⟩ ((Kp.refl [] _).alloc _)
            case o8 => intro aR wR mR hR hI; replace hR := hR.undrew; intro v26 h26 e26; replace e26 : v26 = .slice oa n oc := e26; subst e26; intro v33 h33 e33; obtain ⟨b, z, rfl, hb, hrow, hz, ho⟩ := e33; exact execS_grow ralies (wanted_none rfl) (.tmp 26) (.tmp 33) 50 50 rfl w1.heap.size 34 (.agg #[.slice none 0 0, .int .i64 0, .slice none 0 0, .slice none 0 0, .slice none 0 0]) 104 Try.underlying50 infoRecA rfl oa oc n YS HN.out [z] _ 1 rfl (by go_simp) (by go_simp) (HI6.out.own.keep0 hR) (src_oneS ralies (x := z) Try.underlying50 hrow) hroom (by omega) (by omega) (Nat.le_trans HI6.out.kp.size hR.size) (fun cap' w' g1 g2 => ⟨_, cap', z, rfl, ownS_high g1 hR.size, hz, ho.keep0 g2⟩)
            case o9 => intro aR wR mR hR hI; replace hR := hR.undrew; intro v34 h34 e34; exact exec_val (wanted_none rfl) (by go_simp) e34
          · intro vs wR hR hI hV
            obtain ⟨e0, e1, e2, e3, e4, e5, e6, e7, e8, e9, -⟩ := hV
            replace e0 : vs 0 = .slice oa n oc := e0
            replace e1 : vs 1 = .slice (some ⟨b0, off0, none⟩) ln lc := e1
            replace e2 : vs 2 = .int .i64 (i : Int) := e2
            replace e3 : vs 3 = .pointer (some ⟨b0, off0 + i * 5, none⟩) := e3
            replace e4 : vs 4 = .agg #[.slice xia kk xic, .int .i64 xcnt, .slice xsa mm xsc, .slice xma mm xmc, .slice xga mm xgc] := e4
            replace e5 : vs 5 = .agg #[.slice ia kk ic, .int .i64 cnt, .slice sa mm sc, .slice ma mm mc, .slice ga mm gc] := e5
            simp only [putAll, List.take_succ_cons, List.take_zero, List.drop_succ_cons, List.drop_zero, e0, e1, e2, e3, e4, e5, Nat.reduceAdd, Nat.zero_add]
            clear e0 e1 e2 e3 e4 e5
            try simp only [List.setIfInBounds_toArray, List.set_cons_succ, List.set_cons_zero]
            refine wpList_nil ?_
            simp only [Nat.reduceAdd, Nat.zero_add] at e9
            obtain ⟨ad, cap, z, hv9, hown, hz, ho⟩ := e9
            rw [hv9]
            have HIN := Lib.hid (HI6.out.app (hR.wide (by simp)) (hown.mono HI6.out.kp.size) ⟨.inr (ho.mono HI6.out.kp.size), HML2.out z hz⟩)
            have HPZ : Hid (PutR X yp true ((YS ++ [z]).map Ra.pr) (i + 1)) := Lib.hid (by rw [List.map_append]; simp only [List.map_cons, List.map_nil]; rw [hz]; exact HPN.out)
            generalize vs 6 = v6
            generalize vs 7 = v7
            generalize vs 8 = v8
            clear hI hR hown ho hz hv9
            clear e6 e7 e8
            clear hS0
            go_wp2_with fail
            go_roundw
            case rel => exact ⟨i + 1, n + 1, true, ad, cap, YS ++ [z], hlt, by omega, by go_num, rfl, by go_num, Lib.hid (by rw [List.length_append, ← HN.out]; rfl), HPZ, HIN⟩
            case measure => simp [intOf]; omega
      · have hns : d = false → ¬ xids = ids := fun hd hx => by
          have := HQ.out
          rw [hd, hx] at this
          simp at this
        have HNS := Lib.hid hns
        clear hns
        obtain ⟨X0, hX0⟩ : ∃ X0 : Ra, X0 = ⟨xids, xia, xic, xcnt, xms, xsa, xsc, xma, xmc, xga, xgc⟩ := ⟨_, rfl⟩
        obtain ⟨Y0, hY0⟩ : ∃ Y0 : Ra, Y0 = ⟨ids, ia, ic, cnt, ms, sa, sc, ma, mc, ga, gc⟩ := ⟨_, rfl⟩
        have HXEL : Hid (∀ W, ElOk G w1 k mt W X0) := Lib.hid (fun W => ⟨.inl ⟨by rw [hX0]; exact HXRD.out, by rw [hX0]; exact HXG.out⟩, by rw [hX0]; exact HXL.out⟩)
        have HYEL : Hid (∀ W, ElOk G w1 k mt W Y0) := Lib.hid (fun W => ⟨.inl ⟨by rw [hY0]; exact HY1.out, by rw [hY0]; exact HGY.out⟩, by rw [hY0]; exact ⟨by rw [HKK.out, HKL.out], by rw [HMM.out, HML.out]⟩⟩)
        have HXP : Hid (X[i]? = some X0.pr) := Lib.hid (by rw [hX0]; exact HXI.out)
        have HYP0 : Hid (Y0.pr = yp) := Lib.hid (by rw [hY0, HYP.out])
        have HSX : Hid (∀ (W : World) (b : Nat), W.heap[b]? = some (.cells #[.slice xia kk xic, .int .i64 xcnt, .slice xsa mm xsc, .slice xma mm xmc, .slice xga mm xgc] 34) → Src Try.prog 5 50 (.slice (some ⟨b, 0, none⟩) 1 1) 1 ([X0].flatMap racells) W) := Lib.hid (fun W b hb => src_oneS ralies (x := X0) Try.underlying50 (by
          rw [hX0]
          have e1 : xids.length = kk := by rw [← HKK.out]; exact HXL.out.1
          have e2 : xms.length = mm := by rw [← HMM.out]; exact HXL.out.2
          rw [hb, ← e1, ← e2]; rfl))
        have HSY : Hid (∀ (W : World) (b : Nat), W.heap[b]? = some (.cells #[.slice ia kk ic, .int .i64 cnt, .slice sa mm sc, .slice ma mm mc, .slice ga mm gc] 34) → Src Try.prog 5 50 (.slice (some ⟨b, 0, none⟩) 1 1) 1 ([Y0].flatMap racells) W) := Lib.hid (fun W b hb => src_oneS ralies (x := Y0) Try.underlying50 (by
          rw [hY0, hb, HKL.out, HML.out]; rfl))
        have HXID : Hid (X0.pr.ids = xids ∧ yp.ids = ids) := Lib.hid ⟨by rw [hX0]; rfl, by rw [HYP.out]; rfl⟩
        clear hX0 hY0
        obtain ⟨q2, hq2⟩ : ∃ q2, q2 = (!d && ltI ids xids) := ⟨_, rfl⟩
        have HQ2 := Lib.hid hq2
        clear hq2
        go_upto_region 9 with (fail)
        go_cut [46] (fun v46 wx => v46 = .bool q2 ∧ Hid (Kp [] w6 wx))
        case first =>
          cases d
          · obtain ⟨ag, hag⟩ : ∃ ag, ag = ltI ids xids := ⟨_, rfl⟩
            rw [← hag] at HLS
            have HQA : Hid (q2 = ag) := Lib.hid (by rw [HQ2.out, hag]; rfl)
            clear hag
            refine wp_region_K (by kernel_rfl) [.val (.bool false), .val (.bool true), .val (.bool true), .val (.pointer (some ⟨p, 0, none⟩)), .val (.slice ia kk ic), .val (.slice (some ⟨b0, off0, none⟩) ln lc), .val (.int .i64 (i : Int)), .val (.pointer (some ⟨b0, off0 + i * 5, none⟩)), .val (.pointer (some ⟨b0, off0 + i * 5, none⟩)), .val (.slice xia kk xic), .val (.bool ag), .val (.bool ag)] [[(6, none)], [(35, some 0)], [(36, some 1)], [(37, some 2), (3, none)], [(37, some 2), (38, some 3)], [(37, some 2), (0, none)], [(37, some 2), (7, none)], [(37, some 2), (40, some 5), (41, some 6)], [(37, some 2), (42, some 7)], [(37, some 2), (43, some 8)], [(37, some 2), (39, some 4), (44, some 9)], [(37, some 2), (45, some 10)]] rfl (by kernel_rfl) ?_ ?_
            · refine ⟨?o0, ?o1, ?o2, ?o3, ?o4, ?o5, ?o6, ?o7, ?o8, ?o9, ?o10, ?o11, trivial⟩
              case o0 => intro aR wR hR; replace hR := hR.undrew; intro (h6 : aR.tmps[6]? = some (.bool false)); exact exec_val (c := .bool false) (wanted_none rfl) (by go_simp) rfl
              case o1 => intro aR wR hR; replace hR := hR.undrew; intro v35 h35 e35; replace e35 : v35 = .bool false := e35; subst e35; exact exec_val (c := .bool true) (wanted_none rfl) (by go_simp) rfl
              case o2 => intro aR wR hR; replace hR := hR.undrew; intro v36 h36 e36; replace e36 : v36 = .bool true := e36; subst e36; exact exec_val (c := .bool true) (wanted_none rfl) (by go_simp) rfl
              case o3 => intro aR wR hR; replace hR := hR.undrew; intro v37 h37 e37; replace e37 : v37 = .bool true := e37; subst e37; intro (h3 : aR.tmps[3]? = some (.pointer (some ⟨p, 0, none⟩))); exact exec_val (c := .pointer (some ⟨p, 0, none⟩)) (wanted_yes (b := true) (t := 37) rfl rfl h37) (by go_simp) rfl
              case o4 => intro aR wR hR; replace hR := hR.undrew; intro v37 h37 e37; replace e37 : v37 = .bool true := e37; subst e37; intro v38 h38 e38; replace e38 : v38 = .pointer (some ⟨p, 0, none⟩) := e38; subst e38; (have h1 := arow_cell (HRPS.out wR (HI6.out.kp.tr hR)) 0 rfl); exact exec_val (c := .slice ia kk ic) (wanted_yes (b := true) (t := 37) rfl rfl h37) (by go_simp) rfl
              case o5 => intro aR wR hR; replace hR := hR.undrew; intro v37 h37 e37; replace e37 : v37 = .bool true := e37; subst e37; intro (h0 : aR.tmps[0]? = some (.slice (some ⟨b0, off0, none⟩) ln lc)); exact exec_val (c := .slice (some ⟨b0, off0, none⟩) ln lc) (wanted_yes (b := true) (t := 37) rfl rfl h37) (by go_simp) rfl
              case o6 => intro aR wR hR; replace hR := hR.undrew; intro v37 h37 e37; replace e37 : v37 = .bool true := e37; subst e37; intro (h7 : aR.tmps[7]? = some (.int .i64 (i : Int))); exact exec_val (c := .int .i64 (i : Int)) (wanted_yes (b := true) (t := 37) rfl rfl h37) (by go_simp) rfl
              case o7 => intro aR wR hR; replace hR := hR.undrew; intro v37 h37 e37; replace e37 : v37 = .bool true := e37; subst e37; intro v40 h40 e40; replace e40 : v40 = .slice (some ⟨b0, off0, none⟩) ln lc := e40; subst e40; intro v41 h41 e41; replace e41 : v41 = .int .i64 (i : Int) := e41; subst e41; exact exec_val (c := .pointer (some ⟨b0, off0 + i * 5, none⟩)) (wanted_yes (b := true) (t := 37) rfl rfl h37) (by go_simp) rfl
              case o8 => intro aR wR hR; replace hR := hR.undrew; intro v37 h37 e37; replace e37 : v37 = .bool true := e37; subst e37; intro v42 h42 e42; replace e42 : v42 = .pointer (some ⟨b0, off0 + i * 5, none⟩) := e42; subst e42; exact exec_val (c := .pointer (some ⟨b0, off0 + i * 5, none⟩)) (wanted_yes (b := true) (t := 37) rfl rfl h37) (by go_simp) rfl
              case o9 => intro aR wR hR; replace hR := hR.undrew; intro v37 h37 e37; replace e37 : v37 = .bool true := e37; subst e37; intro v43 h43 e43; replace e43 : v43 = .pointer (some ⟨b0, off0 + i * 5, none⟩) := e43; subst e43; (have h1 : wR.cell? ⟨b0, off0 + i * 5, none⟩ = some (.slice xia kk xic) := HRGS.out wR (HI6.out.kp.tr hR) 0 _ rfl); exact exec_val (c := .slice xia kk xic) (wanted_yes (b := true) (t := 37) rfl rfl h37) (by go_simp) rfl
              case o10 => intro aR wR hR; replace hR := hR.undrew; intro v37 h37 e37; replace e37 : v37 = .bool true := e37; subst e37; intro v39 h39 e39; replace e39 : v39 = .slice ia kk ic := e39; subst e39; intro v44 h44 e44; replace e44 : v44 = .slice xia kk xic := e44; subst e44; refine exec_call (wanted_yes (b := true) (t := 37) rfl rfl h37) (by go_simp; exact ⟨rfl, rfl⟩) ?_; refine (HLS.out wR (HI6.out.kp.tr hR)).mono ?_; rintro e7 w8 ⟨rfl, kp8⟩; exact ⟨_, rfl, rfl, kp8⟩
              case o11 => intro aR wR hR; replace hR := hR.undrew; intro v37 h37 e37; replace e37 : v37 = .bool true := e37; subst e37; intro v45 h45 e45; replace e45 : v45 = .bool ag := e45; subst e45; exact exec_val (c := .bool ag) (wanted_none rfl) (by go_simp) rfl
            · intro vs wR hR hV
              obtain ⟨e0, e1, e2, e3, e4, e5, e6, e7, e8, e9, e10, e11, -⟩ := hV
              replace e0 : vs 0 = .bool false := e0
              replace e1 : vs 1 = .bool true := e1
              replace e2 : vs 2 = .bool true := e2
              replace e3 : vs 3 = .pointer (some ⟨p, 0, none⟩) := e3
              replace e4 : vs 4 = .slice ia kk ic := e4
              replace e5 : vs 5 = .slice (some ⟨b0, off0, none⟩) ln lc := e5
              replace e6 : vs 6 = .int .i64 (i : Int) := e6
              replace e7 : vs 7 = .pointer (some ⟨b0, off0 + i * 5, none⟩) := e7
              replace e8 : vs 8 = .pointer (some ⟨b0, off0 + i * 5, none⟩) := e8
              replace e9 : vs 9 = .slice xia kk xic := e9
              replace e10 : vs 10 = .bool ag := e10
              replace e11 : vs 11 = .bool ag := e11
              simp only [putAll, e0, e1, e2, e3, e4, e5, e6, e7, e8, e9, e10, e11, Nat.reduceAdd, Nat.zero_add]
              clear e0 e1 e2 e3 e4 e5 e6 e7 e8 e9 e10 e11
              try simp only [List.setIfInBounds_toArray, List.set_cons_succ, List.set_cons_zero]
              go_wp2_with fail
              go_meet
              exact ⟨by rw [HQA.out], Lib.hid hR⟩
          · have HQA : Hid (q2 = false) := Lib.hid (by rw [HQ2.out]; rfl)
            refine wp_region_K (by kernel_rfl) [.val (.bool true), .val (.bool false), .val (.bool false), .val (undef), .val (undef), .val (undef), .val (undef), .val (undef), .val (undef), .val (undef), .val (undef), .val ((.bool false))] [[(6, none)], [(35, some 0)], [(36, some 1)], [(37, some 2)], [(37, some 2)], [(37, some 2)], [(37, some 2)], [(37, some 2)], [(37, some 2)], [(37, some 2)], [(37, some 2)], [(37, some 2), (45, some 10)]] rfl (by kernel_rfl) ?_ ?_
            · refine ⟨?o0, ?o1, ?o2, ?o3, ?o4, ?o5, ?o6, ?o7, ?o8, ?o9, ?o10, ?o11, trivial⟩
              case o0 => intro aR wR hR; replace hR := hR.undrew; intro (h6 : aR.tmps[6]? = some (.bool true)); exact exec_val (c := .bool true) (wanted_none rfl) (by go_simp) rfl
              case o1 => intro aR wR hR; replace hR := hR.undrew; intro v35 h35 e35; replace e35 : v35 = .bool true := e35; subst e35; exact exec_val (c := .bool false) (wanted_none rfl) (by go_simp) rfl
              case o2 => intro aR wR hR; replace hR := hR.undrew; intro v36 h36 e36; replace e36 : v36 = .bool false := e36; subst e36; exact exec_val (c := .bool false) (wanted_none rfl) (by go_simp) rfl
              case o3 => intro aR wR hR; replace hR := hR.undrew; intro v37 h37 e37; replace e37 : v37 = .bool false := e37; subst e37; exact exec_pass (wanted_not (b := true) (t := 37) rfl rfl h37) rfl
              case o4 => intro aR wR hR; replace hR := hR.undrew; intro v37 h37 e37; replace e37 : v37 = .bool false := e37; subst e37; exact exec_pass (wanted_not (b := true) (t := 37) rfl rfl h37) rfl
              case o5 => intro aR wR hR; replace hR := hR.undrew; intro v37 h37 e37; replace e37 : v37 = .bool false := e37; subst e37; exact exec_pass (wanted_not (b := true) (t := 37) rfl rfl h37) rfl
              case o6 => intro aR wR hR; replace hR := hR.undrew; intro v37 h37 e37; replace e37 : v37 = .bool false := e37; subst e37; exact exec_pass (wanted_not (b := true) (t := 37) rfl rfl h37) rfl
              case o7 => intro aR wR hR; replace hR := hR.undrew; intro v37 h37 e37; replace e37 : v37 = .bool false := e37; subst e37; exact exec_pass (wanted_not (b := true) (t := 37) rfl rfl h37) rfl
              case o8 => intro aR wR hR; replace hR := hR.undrew; intro v37 h37 e37; replace e37 : v37 = .bool false := e37; subst e37; exact exec_pass (wanted_not (b := true) (t := 37) rfl rfl h37) rfl
              case o9 => intro aR wR hR; replace hR := hR.undrew; intro v37 h37 e37; replace e37 : v37 = .bool false := e37; subst e37; exact exec_pass (wanted_not (b := true) (t := 37) rfl rfl h37) rfl
              case o10 => intro aR wR hR; replace hR := hR.undrew; intro v37 h37 e37; replace e37 : v37 = .bool false := e37; subst e37; exact exec_pass (wanted_not (b := true) (t := 37) rfl rfl h37) rfl
              case o11 => intro aR wR hR; replace hR := hR.undrew; intro v37 h37 e37; replace e37 : v37 = .bool false := e37; subst e37; intro v45 h45 e45; replace e45 : v45 = undef := e45; subst e45; exact exec_val (c := (.bool false)) (wanted_none rfl) (by go_simp) rfl
            · intro vs wR hR hV
              obtain ⟨e0, e1, e2, e3, e4, e5, e6, e7, e8, e9, e10, e11, -⟩ := hV
              replace e0 : vs 0 = .bool true := e0
              replace e1 : vs 1 = .bool false := e1
              replace e2 : vs 2 = .bool false := e2
              replace e3 : vs 3 = undef := e3
              replace e4 : vs 4 = undef := e4
              replace e5 : vs 5 = undef := e5
              replace e6 : vs 6 = undef := e6
              replace e7 : vs 7 = undef := e7
              replace e8 : vs 8 = undef := e8
              replace e9 : vs 9 = undef := e9
              replace e10 : vs 10 = undef := e10
              replace e11 : vs 11 = (.bool false) := e11
              simp only [putAll, e0, e1, e2, e3, e4, e5, e6, e7, e8, e9, e10, e11, Nat.reduceAdd, Nat.zero_add]
              clear e0 e1 e2 e3 e4 e5 e6 e7 e8 e9 e10 e11
              try simp only [List.setIfInBounds_toArray, List.set_cons_succ, List.set_cons_zero]
              go_wp2_with fail
              go_meet
              exact ⟨by rw [HQA.out], Lib.hid hR⟩
        obtain ⟨rfl, HK9⟩ := hcut
        obtain ⟨w9, rfl⟩ : ∃ w9 : World, w9 = wc := ⟨_, rfl⟩
        have HI9 := Lib.hid (HI6.out.keep0 HK9.out)
        cases q2
        rotate_left
        · have hd2 : d = false ∧ ltI ids xids = true := by
            have := HQ2.out
            cases d
            · exact ⟨rfl, by simpa using this.symm⟩
            · simp at this
          obtain ⟨rfl, hlt9⟩ := hd2
          have HPN : Hid (PutR X yp true ((YS ++ [Y0] ++ [X0]).map Ra.pr) (i + 1)) := Lib.hid (by
            have := HP.out.ahead HXP.out (by rw [HXID.out.1, HXID.out.2]; exact HNS.out rfl) (by rw [HXID.out.1, HXID.out.2]; exact hlt9)
            rw [List.map_append, List.map_append]
            simp only [List.map_cons, List.map_nil]
            rw [HYP0.out]
            exact this)
          clear hlt9
          have HRPN := Lib.hid (HRPS.out w9 HI9.out.kp)
          go_upto_region 11 with first
            | (refine wpList_load_row rfl 34 _ rfl p rfl 34 #[.slice ia kk ic, .int .i64 cnt, .slice sa mm sc, .slice ma mm mc, .slice ga mm gc] (0, 0) _ HRPN.out Try.underlying34 rfl (by kernel_rfl) ?_)
            | (at_builtin; refine wpList_appS ralies rfl (.tmp 47) (.tmp 49) 50 50 rfl w1.heap.size 34 (.agg #[.slice none 0 0, .int .i64 0, .slice none 0 0, .slice none 0 0, .slice none 0 0]) 104 Try.underlying50 infoRecA rfl oa oc n YS HN.out [Y0] _ 1 rfl rfl rfl (HI9.out.own.alloc _) (HSY.out _ _ (heap_alloc_at rfl)) (by omega) (by omega) (by have := HI9.out.kp.size; simp only [World.size_alloc]; omega) ?_; intro oa1 oc1 w10 hoa kpa hoba _; have HI10 : Hid (PutI G w1 k mt oa1 oc1 (YS ++ [Y0]) w10) := Lib.hid (HI9.out.snoc kpa ((Kp.refl [] _).alloc _) hoa (HYEL.out _)); clear hoa kpa hoba)
          have HRGN := Lib.hid (HRGS.out w10 HI10.out.kp)
          have HN1 : Hid (n + 1 = (YS ++ [Y0]).length) := Lib.hid (by rw [List.length_append, ← HN.out]; rfl)
          have hoc1 : oc1 ≤ 9223372036854775807 := (HI10.out.own.rd ralies).2.1
          go_wp2_with first
            | (refine wpList_load_mid rfl 34 _ rfl b0 (off0 + i * 5) rfl [.slice xia kk xic, .int .i64 xcnt, .slice xsa mm xsc, .slice xma mm xmc, .slice xga mm xgc] _ HRGN.out Try.underlying34 rfl (by kernel_rfl) ?_)
            | (at_builtin; refine wpList_appS ralies rfl (.tmp 51) (.tmp 56) 50 50 rfl w1.heap.size 34 (.agg #[.slice none 0 0, .int .i64 0, .slice none 0 0, .slice none 0 0, .slice none 0 0]) 104 Try.underlying50 infoRecA rfl oa1 oc1 (n + 1) (YS ++ [Y0]) HN1.out [X0] _ 1 rfl rfl rfl (HI10.out.own.alloc _) (HSX.out _ _ (heap_alloc_at rfl)) (by omega) (by omega) (by have := HI10.out.kp.size; simp only [World.size_alloc]; omega) ?_; intro oa2 oc2 w11 hoa kpa hoba _; have HI11 : Hid (PutI G w1 k mt oa2 oc2 ((YS ++ [Y0]) ++ [X0]) w11) := Lib.hid (HI10.out.snoc kpa ((Kp.refl [] _).alloc _) hoa (HXEL.out _)); clear hoa kpa hoba)
          go_roundw
          case rel => exact ⟨i + 1, n + 1 + 1, true, oa2, oc2, YS ++ [Y0] ++ [X0], hlt, by omega, by go_num, rfl, by go_num, Lib.hid (by rw [List.length_append, ← HN1.out]; rfl), HPN, HI11⟩
          case measure => simp [intOf]; omega
        · have HPN : Hid (PutR X yp d ((YS ++ [X0]).map Ra.pr) (i + 1)) := Lib.hid (by
            rw [List.map_append]
            simp only [List.map_cons, List.map_nil]
            cases d
            · exact HP.out.behind HXP.out (by rw [HXID.out.1, HXID.out.2]; exact HNS.out rfl) (by rw [HXID.out.1, HXID.out.2]; exact HQ2.out.symm)
            · exact HP.out.done HXP.out)
          have HRGN := Lib.hid (HRGS.out w9 HI9.out.kp)
          go_wp2_with first
            | (refine wpList_load_mid rfl 34 _ rfl b0 (off0 + i * 5) rfl [.slice xia kk xic, .int .i64 xcnt, .slice xsa mm xsc, .slice xma mm xmc, .slice xga mm xgc] _ HRGN.out Try.underlying34 rfl (by kernel_rfl) ?_)
            | (at_builtin; refine wpList_appS ralies rfl (.tmp 51) (.tmp 56) 50 50 rfl w1.heap.size 34 (.agg #[.slice none 0 0, .int .i64 0, .slice none 0 0, .slice none 0 0, .slice none 0 0]) 104 Try.underlying50 infoRecA rfl oa oc n YS HN.out [X0] _ 1 rfl rfl rfl (HI9.out.own.alloc _) (HSX.out _ _ (heap_alloc_at rfl)) (by omega) (by omega) (by have := HI9.out.kp.size; simp only [World.size_alloc]; omega) ?_; intro oa2 oc2 w11 hoa kpa hoba _; have HI11 : Hid (PutI G w1 k mt oa2 oc2 (YS ++ [X0]) w11) := Lib.hid (HI9.out.snoc kpa ((Kp.refl [] _).alloc _) hoa (HXEL.out _)); clear hoa kpa hoba)
          go_roundw
          case rel => exact ⟨i + 1, n + 1, d, oa2, oc2, YS ++ [X0], hlt, by omega, by go_num, rfl, by go_num, Lib.hid (by rw [List.length_append, ← HN.out]; rfl), HPN, HI11⟩
          case measure => simp [intOf]; omega
    · obtain rfl : ln = i := by omega
      have hdr : X.drop ln = [] := List.drop_eq_nil_of_le (by rw [HXE.out, List.length_map, HLN.out]; exact Nat.le_refl _)
      have HDR := Lib.hid hdr
      clear hdr
      cases d
      · obtain ⟨Y0, hY0⟩ : ∃ Y0 : Ra, Y0 = ⟨ids, ia, ic, cnt, ms, sa, sc, ma, mc, ga, gc⟩ := ⟨_, rfl⟩
        have HYEL : Hid (∀ W, ElOk G w1 k mt W Y0) := Lib.hid (fun W => ⟨.inl ⟨by rw [hY0]; exact HY1.out, by rw [hY0]; exact HGY.out⟩, by rw [hY0]; exact ⟨by rw [HKK.out, HKL.out], by rw [HMM.out, HML.out]⟩⟩)
        have HYP0 : Hid (Y0.pr = yp) := Lib.hid (by rw [hY0, HYP.out])
        have HSY : Hid (∀ (W : World) (b : Nat), W.heap[b]? = some (.cells #[.slice ia kk ic, .int .i64 cnt, .slice sa mm sc, .slice ma mm mc, .slice ga mm gc] 34) → Src Try.prog 5 50 (.slice (some ⟨b, 0, none⟩) 1 1) 1 ([Y0].flatMap racells) W) := Lib.hid (fun W b hb => src_oneS ralies (x := Y0) Try.underlying50 (by
          rw [hY0, hb, HKL.out, HML.out]; rfl))
        clear hY0
        have HRPN := Lib.hid (HRW.out)
        have hn2 : n + 2 ≤ 300000 := by omega
        go_wp2_with first
          | (refine wpList_load_row rfl 34 _ rfl p rfl 34 #[.slice ia kk ic, .int .i64 cnt, .slice sa mm sc, .slice ma mm mc, .slice ga mm gc] (0, 0) _ HRPN.out Try.underlying34 rfl (by kernel_rfl) ?_)
          | (at_builtin; refine wpList_appS ralies rfl (.tmp 60) (.tmp 62) 50 50 rfl w1.heap.size 34 (.agg #[.slice none 0 0, .int .i64 0, .slice none 0 0, .slice none 0 0, .slice none 0 0]) 104 Try.underlying50 infoRecA rfl oa oc n YS HN.out [Y0] _ 1 rfl rfl rfl (HI.out.own.alloc _) (HSY.out _ _ (heap_alloc_at rfl)) (by omega) (by omega) (by have := HI.out.kp.size; simp only [World.size_alloc]; omega) ?_; intro oa1 oc1 w10 hoa kpa hoba _; have HI10 : Hid (PutI G w1 k mt oa1 oc1 (YS ++ [Y0]) w10) := Lib.hid (HI.out.snoc kpa ((Kp.refl [] _).alloc _) hoa (HYEL.out _)); clear hoa kpa hoba)
        go_ret
        refine ⟨oa1, oc1, YS ++ [Y0], by rw [List.length_append, ← HN.out]; rfl, HI10.out.own.mono K1.out.size, fun z hz => ⟨HI10.out.rd z hz, (HI10.out.el z hz).2⟩, HI10.out.g K1.out.size, ?_, K1.out.tr HI10.out.kp⟩
        have := HP.out
        unfold PutR at this
        rw [HDR.out] at this
        rw [List.map_append, List.map_cons, List.map_nil, HYP0.out]
        simpa [putP] using this
      · go_wp2_with fail
        go_ret
        refine ⟨oa, oc, YS, by rw [← HN.out]; rfl, HI.out.own.mono K1.out.size, fun z hz => ⟨HI.out.rd z hz, (HI.out.el z hz).2⟩, HI.out.g K1.out.size, ?_, K1.out.tr HI.out.kp⟩
        have := HP.out
        unfold PutR at this
        rw [HDR.out] at this
        simpa using this
theorem r19Put_any (la : Option Addr) (ln lc : Nat) (XS : List Ra) (hln : ln = XS.length) (hlb : ln ≤ 100000) (y : Ra) (k mt : Nat) (hk : k ≤ 1000) (hmt : mt ≤ 1000) (hl : ∀ x ∈ XS, x.ids.length = k ∧ x.ms.length = mt) (hyl : y.ids.length = k ∧ y.ms.length = mt) (w : World)
    (hx : RdS racells 5 w la lc XS) (hxr : ∀ x ∈ XS, RaRd w x) (hy : RaRd w y) :
    Calls Try.prog 32 #[.slice la ln lc, raV y] w fun e w' => ∃ oa oc YS, e = .returned (.slice oa YS.length oc) ∧ OwnS racells 5 w' w.heap.size 34 oa oc YS ∧ (∀ z ∈ YS, RaRd w' z ∧ z.ids.length = k ∧ z.ms.length = mt) ∧ YS.map Ra.pr = putP (XS.map Ra.pr) y.pr ∧ Kp [] w w' :=
  (r19Put_anyG (fun _ => True) la ln lc XS hln hlb y k mt hk hmt hl hyl w hx hxr hy (fun _ _ => trivial) trivial).mono fun e w' ⟨oa, oc, YS, h1, h2, h3, _, h4, h5⟩ => ⟨oa, oc, YS, h1, h2, h3, h4, h5⟩
end Go.Proofs.Ythmaobmgogmaoaa
