/-
  Parts of the walks and their plain laws (E26 E27 E28 E30). No condition.
-/
import Derived.Test.YtimemehaccgmmaaGreatDoorM10
import Derived.Test.YtimemehaccgmmaaGreatDoorM08
import Derived.RangeFuncLeaves
import Derived.RangeFuncRecord
import Derived.TacticsIn
namespace Go.Proofs.YtimemehaccgmmaaGreatDoor
open Go.RowKit
set_option maxRecDepth 100000
set_option linter.unusedSimpArgs false
set_option linter.unusedVariables false
noncomputable section
/-- A slice, with what it holds. -/
def fNs {α : Type} (x : Q2 × List α) : List Value := [.slice x.1.1 x.2.length x.1.2]
instance {α : Type} : Lies (fNs (α := α)) 1 := ⟨fun _ => rfl, fun x v h => by simp [fNs] at h; subst h; rfl, by decide⟩
section
variable {α : Type} {f : α → List Value} {sz : Nat} {e : TypeId} {J : List (World → Prop)} {H R : List RC} {w : World} {A : List (Q2 × List α)}
def inn (f : α → List Value) (sz : Nat) (e : TypeId) (A : List (Q2 × List α)) : List RC := A.map fun a => sl f sz e a.1.1 a.1.2 a.2
def AllR (f : α → List Value) (sz : Nat) (A : List (Q2 × List α)) (w : World) : Prop := ∀ a ∈ A, Rs f sz a.1.1 a.1.2 a.2 w
theorem AllR.nil : AllR f sz [] w := fun _ h => nomatch h
theorem AllR.snoc {a : Q2 × List α} (h : AllR f sz A w) (k : Rs f sz a.1.1 a.1.2 a.2 w) : AllR f sz (A ++ [a]) w := fun x hx => by
  rcases List.mem_append.1 hx with h1 | h1
  · exact h x h1
  · rw [List.mem_singleton.1 h1]; exact k
theorem AllR.at (h : AllR f sz A w) {i : Nat} (hi : i < A.length) : Rs f sz A[i].1.1 A[i].1.2 A[i].2 w := h _ (List.getElem_mem hi)
theorem fp_append : ∀ {R H : List RC}, fp (R ++ H) = fp R ++ fp H
  | [], H => rfl
  | r :: R, H => by simp [fp, fp_append (R := R)]
/-- Much that is held is read from now on. -/
theorem Ctx.fzA (h : Ctx J (R ++ H) w) : Ctx (allH R :: J) H w := by
  have hn := h.nd
  rw [fp_append] at hn
  have ha := allH_iff.1 h.hs
  refine ⟨fun w' k => ⟨allH_iff.2 fun r hr => r.kp w w' (fun b hb => k.block b (h.lt b ?_) fun hm => ?_) (ha r (List.mem_append_left _ hr)), h.st w' (k.mono fun x hx => .inl ?_)⟩, allH_iff.2 fun r hr => ha r (List.mem_append_right _ hr), fun b hb => h.lt b ?_, (List.nodup_append.1 hn).2.1⟩
  · exact fp_mem.2 ⟨r, List.mem_append_left _ hr, hb⟩
  · exact (List.nodup_append.1 hn).2.2 b (fp_mem.2 ⟨r, hr, hb⟩) b hm rfl
  · rw [fp_append]; exact List.mem_append_right _ hx
  · rw [fp_append]; exact List.mem_append_right _ hb
theorem Ctx.fzI [Lf : Lies f sz] (h : Ctx J (inn f sz e A ++ H) w) : Ctx (AllR f sz A :: J) H w :=
  h.fzA.ent fun w j => ⟨fun a ha => OwnS.rd (show OwnS f sz w 0 e a.1.1 a.1.2 a.2 from allH_iff.1 j.1 _ (List.mem_map.2 ⟨a, ha, rfl⟩)) Lf, j.2⟩
theorem Ctx.nlI (m : Nat) (h : Ctx J H w) : Ctx J (inn f sz e (List.replicate m ((none, 0), [])) ++ H) w := by
  induction m with
  | zero => exact h
  | succ m ih =>
    exact ⟨fun w' k => ih.st w' (k.mono fun x hx => .inl (by simpa [fp, sl, ob, inn, List.replicate_succ] using hx)), ⟨OwnS.nil f sz w 0 e, ih.hs⟩, fun b hb => ih.lt b (by simpa [fp, sl, ob, inn, List.replicate_succ] using hb), by simpa [fp, sl, ob, inn, List.replicate_succ] using ih.nd⟩
theorem eraseIdx_perm {β : Type} : ∀ {l : List β} {i : Nat} (h : i < l.length), l.Perm (l[i] :: l.eraseIdx i)
  | x :: l, 0, _ => .refl _
  | x :: l, i + 1, h => ((eraseIdx_perm (l := l) (i := i) (by simpa using h)).cons x).trans (.swap ..)
theorem set_eraseIdx {β : Type} : ∀ {l : List β} {i : Nat} (y : β), (l.set i y).eraseIdx i = l.eraseIdx i
  | [], i, y => by simp
  | x :: l, 0, y => rfl
  | x :: l, i + 1, y => by simp [set_eraseIdx]
theorem inn_pick {i : Nat} (h : i < A.length) : (inn f sz e A ++ H).Perm (sl f sz e A[i].1.1 A[i].1.2 A[i].2 :: (inn f sz e (A.eraseIdx i) ++ H)) :=
  ((eraseIdx_perm h).map _).append_right H
theorem inn_put {i : Nat} (h : i < A.length) (a : Q2 × List α) : (sl f sz e a.1.1 a.1.2 a.2 :: (inn f sz e (A.eraseIdx i) ++ H)).Perm (inn f sz e (A.set i a) ++ H) := by
  have := inn_pick (f := f) (sz := sz) (e := e) (H := H) (A := A.set i a) (i := i) (by simpa using h)
  rw [set_eraseIdx] at this
  simpa using this.symm
/-- A fact of each element. -/
def AllE {β : Type} (F : β → World → Prop) (A : List β) (w : World) : Prop := ∀ a ∈ A, F a w
theorem AllE.snoc {β : Type} {F : β → World → Prop} {A : List β} {a : β} (h : AllE F A w) (k : F a w) : AllE F (A ++ [a]) w := fun x hx => by
  rcases List.mem_append.1 hx with h1 | h1
  · exact h x h1
  · rw [List.mem_singleton.1 h1]; exact k
theorem AllE.at {β : Type} {F : β → World → Prop} {A : List β} (h : AllE F A w) {i : Nat} (hi : i < A.length) : F A[i] w := h _ (List.getElem_mem hi)
end
end
end Go.Proofs.YtimemehaccgmmaaGreatDoor
namespace Go.Proofs.YtimemehaccgmmaaGreatDoor
open Go.RowKit
set_option maxRecDepth 100000
set_option linter.unusedSimpArgs false
set_option linter.unusedVariables false
noncomputable section
section
variable {P : Program} {n : Fr} {ops : Array Oper} {s : List KI} {L L' L0 : Env} {C C' : World → Prop} {Q : Exit → Act → World → Prop} {J : List (World → Prop)} {H H0 : List RC} {D : List Vq} {E E' E0 : List Nat} {t : Nat}
/-- Chains, up to a stage at which one stops. -/
theorem parS (stp : List (Cn × Nat) → Bool) (chs : List Cn) (hok : ∀ c ∈ chs, CnOk P n ops t D J L0 c) (hnd : (chs.flatMap fun c => [c.d1, c.d2]).Nodup) (hL0 : ∀ d ∈ chs.flatMap (fun c => [c.d1, c.d2]), look L0 d = none)
    (hsh : (allP chs).all (fun r => stp r || (!(NNs r).isEmpty && chkP ops D E0 r)) = true) (hD : ∀ H w, Ctx J (H ++ H0) w → ∀ q ∈ D, Fw q.F w)
    (k : ∀ cs : List (Cn × Pg), cs.map Prod.fst = chs → stp (sh2 cs) = true → DS P n ops t s D (EEs E0 (sh2 cs)) (LLc L0 cs) (Ctx J (HHc H0 cs)) Q) :
    ∀ (m : Nat) (cs : List (Cn × Pg)), cs.map Prod.fst = chs → (cs.map fun x => 2 - shp x.2).sum ≤ m → DS P n ops t s D (EEs E0 (sh2 cs)) (LLc L0 cs) (Ctx J (HHc H0 cs)) Q := by
  intro m
  induction m with
  | zero =>
    intro cs hcs hm
    have hch := List.all_eq_true.1 hsh _ (hcs ▸ sh2_mem cs)
    rw [Bool.or_eq_true, Bool.and_eq_true, Bool.not_eq_true'] at hch
    rcases hch with hch | ⟨hch, -⟩
    · exact k cs hcs hch
    · exfalso
      have h0 : NNs (sh2 cs) = [] := by
        apply List.eq_nil_iff_forall_not_mem.2
        intro e he
        obtain ⟨y, hy, hey⟩ := List.mem_flatMap.1 he
        obtain ⟨⟨c, pg⟩, hx', rfl⟩ := List.mem_map.1 hy
        have := sum_mem (f := fun x : Cn × Pg => 2 - shp x.2) hx'
        have h2 : shp pg ≤ 2 := by cases pg <;> simp [shp]
        have h3 : shp pg = 2 := by dsimp only at this; omega
        obtain ⟨b, q, rfl⟩ := shp2 h3
        simp [nxC, shp] at hey
      rw [h0] at hch; cases hch
  | succ m ih =>
    intro cs hcs hm
    have hch := List.all_eq_true.1 hsh _ (hcs ▸ sh2_mem cs)
    rw [Bool.or_eq_true, Bool.and_eq_true, Bool.not_eq_true'] at hch
    rcases hch with hch | ⟨hne1, hch⟩
    · exact k cs hcs hch
    · have hne0 : NNs (sh2 cs) ≠ [] := fun h => by rw [h] at hne1; cases hne1
      unfold chkP at hch
      rw [show (NNs (sh2 cs)).isEmpty = false by cases h : NNs (sh2 cs) with | nil => exact absurd h hne0 | cons a l => rfl, Bool.false_or, Bool.and_eq_true, Bool.and_eq_true] at hch
      obtain ⟨hch1, hch3, hch2⟩ := hch
      refine dEs ((NNs (sh2 cs)).filter (rdy ops D (EEs E0 (sh2 cs)))) (fun h0 => by rw [h0] at hch3; cases hch3) hch1 fun e he => ?_
      · obtain ⟨he, hdp⟩ := List.mem_filter.1 he
        have hin := List.all_eq_true.1 hch2 e he
        rw [Bool.not_eq_true'] at hin
        unfold rdy at hdp
        obtain ⟨y, hy, hey⟩ := List.mem_flatMap.1 he
        obtain ⟨⟨c, pg⟩, hx', rfl⟩ := List.mem_map.1 hy
        dsimp only at hey
        obtain ⟨l, r, rfl⟩ := List.append_of_mem hx'
        have hc := hok c (by rw [← hcs]; simp)
        have hks : ∀ j, j ∈ ((l ++ (c, pg) :: r).flatMap (fun x => bnC x.1 x.2)).map Prod.fst → look L0 j = none := fun j hj => hL0 j (hcs ▸ key_mem hj)
        have hnl : c.d1 ∉ (l.flatMap (fun x => bnC x.1 x.2)).map Prod.fst ∧ c.d2 ∉ (l.flatMap (fun x => bnC x.1 x.2)).map Prod.fst := by
          rw [← hcs, List.map_append, List.map_cons, List.flatMap_append, List.flatMap_cons] at hnd
          have h3 := (List.nodup_append.1 hnd).2.2
          exact ⟨fun hh => h3 _ (key_mem hh) _ (by simp) rfl, fun hh => h3 _ (key_mem hh) _ (by simp) rfl⟩
        have hLsub : ∀ j u, look L0 j = some u → look (LLc L0 (l ++ (c, pg) :: r)) j = some u := by
          intro j u hj
          unfold LLc
          rw [look_app]
          have : look ((l ++ (c, pg) :: r).flatMap (fun x => bnC x.1 x.2)) j = none := look_key fun hh => by rw [hks j hh] at hj; cases hj
          rw [this]; exact hj
        have hDF : ∀ cs' w, Ctx J (HHc H0 cs') w → ∀ q ∈ D, Fw q.F w := fun cs' w h => hD _ w h
        cases pg with
        | t b q => simp [nxC, shp] at hey
        | z =>
          obtain rfl : e = c.b := by simpa [nxC, shp] using hey
          obtain ⟨o, ho, hbt, hd, hdn, hgd, hsel, hos⟩ := hc.ob
          rw [ho] at hdp
          refine ⟨o, ho, hbt, hin, by rw [hd]; exact hdn, by unfold gOk; rw [hgd], hsel, hdp, Nat, c.v1, fun _ => True, fun b => Ctx J (HHc H0 (l ++ (c, .o b) :: r)), ?_, fun b _ w h => allF_all (hDF _ w h), fun b _ => ?_⟩
          · refine ((hos ((l.flatMap (fun x => rsC x.1 x.2)) ++ (r.flatMap (fun x => rsC x.1 x.2) ++ H0))).ext hLsub).imp (fun w h => h.perm ?_) (fun b w h => h.perm ?_)
            · rw [HHc_mid]; exact List.perm_middle
            · rw [HHc_mid]; exact List.perm_append_comm_assoc [c.u1 b, c.r0] _ _
          · refine dsw (fun j => ?_) (fun e => ?_) (fun w h => h) (ih (l ++ (c, .o b) :: r) (by simpa using hcs) ?_)
            · rw [hd, LLc_mid, LLc_mid]
              exact look_mid hnl.1 j
            · rw [List.mem_cons, EEs_mid, EEs_mid]
              simp only [edC, shp, List.not_mem_nil, false_or, List.mem_singleton]
            · simp only [List.map_append, List.map_cons, List.sum_append, List.sum_cons, shp] at hm ⊢; omega
        | o b =>
          obtain rfl : e = c.a := by simpa [nxC, shp] using hey
          obtain ⟨o, ho, hbt, hd, hdn, hgd, hsel, hos⟩ := hc.oa
          rw [ho] at hdp
          refine ⟨o, ho, hbt, hin, by rw [hd]; exact hdn, by unfold gOk; rw [hgd], hsel, hdp, Option Addr × Nat, c.v2, fun _ => True, fun q => Ctx J (HHc H0 (l ++ (c, .t b q) :: r)), ?_, fun b _ w h => allF_all (hDF _ w h), fun q _ => ?_⟩
          · refine ((hos b ((l.flatMap (fun x => rsC x.1 x.2)) ++ (r.flatMap (fun x => rsC x.1 x.2) ++ H0))).ext fun j u hj => ?_).imp (fun w h => h.perm ?_) (fun q w h => h.perm ?_)
            · rw [look_cons] at hj
              split at hj
              · rename_i e1; subst e1
                rw [LLc_mid]
                have := look_mid (B := r.flatMap (fun x => bnC x.1 x.2) ++ L0) (v := c.v1 b) hnl.1 c.d1
                rw [look_cons, if_pos rfl] at this
                exact this.symm.trans hj
              · exact hLsub j u hj
            · rw [HHc_mid]; exact List.perm_append_comm_assoc _ [c.u1 b, c.r0] _
            · rw [HHc_mid]; exact List.perm_middle.symm
          · refine dsw (fun j => ?_) (fun e => ?_) (fun w h => h) (ih (l ++ (c, .t b q) :: r) (by simpa using hcs) ?_)
            · rw [hd, LLc_mid, LLc_mid]
              exact look_mid hnl.2 j
            · rw [List.mem_cons, EEs_mid, EEs_mid]
              simp only [edC, shp, List.mem_cons, List.not_mem_nil, or_false, or_assoc]
            · simp only [List.map_append, List.map_cons, List.sum_append, List.sum_cons, shp] at hm ⊢; omega
theorem LLc_z {cs : List (Cn × Pg)} {d : Nat} {v : Value} (h : d ∉ (cs.map Prod.fst).flatMap fun c => [c.d1, c.d2]) (j : Nat) : look ((d, v) :: LLc L0 cs) j = look (LLc ((d, v) :: L0) cs) j := by
  unfold LLc
  exact look_mid (fun hh => h (key_mem hh)) j
/-- Chains, and a plain operation z that may come early: it is told as soon as it may be. -/
theorem parZ (z d : Nat) {v : Value} {o : Oper} (chs : List Cn) (hok : ∀ c ∈ chs, CnOk P n ops t D J L0 c) (hnd : (chs.flatMap fun c => [c.d1, c.d2]).Nodup) (hL0 : ∀ d ∈ chs.flatMap (fun c => [c.d1, c.d2]), look L0 d = none)
    (hz1 : ops[z]? = some o) (hz2 : Nat.blt z t = true) (hz3 : o.dst = some d) (hz4 : Nat.blt d n.1 = true) (hz5 : o.guard = none) (hz6 : selB o.op = false) (hz7 : ∀ L, (∀ j u, look L0 j = some u → look L j = some u) → pv P o.op L = some v) (hz8 : d ∉ chs.flatMap fun c => [c.d1, c.d2]) (hz9 : look L0 d = none)
    (hsh : (allP chs).all (fun r => (rdy ops D (EEs E0 r) z && !inV D (EEs E0 r) z) || (!(NNs r).isEmpty && chkP ops D E0 r)) = true) (hsh2 : (allP chs).all (chkP ops (⟨z, v, none⟩ :: D) E0) = true) (hD : ∀ H w, Ctx J (H ++ H0) w → ∀ q ∈ D, Fw q.F w)
    (k : ∀ cs : List (Cn × Pg), cs.map Prod.fst = chs → (∀ x ∈ cs, shp x.2 = 2) → DS P n ops t s (⟨z, v, none⟩ :: D) (EEs E0 (sh2 cs)) (LLc ((d, v) :: L0) cs) (Ctx J (HHc H0 cs)) Q) (m : Nat) (cs : List (Cn × Pg)) (hcs : cs.map Prod.fst = chs) (hm : (cs.map fun x => 2 - shp x.2).sum ≤ m) : DS P n ops t s D (EEs E0 (sh2 cs)) (LLc L0 cs) (Ctx J (HHc H0 cs)) Q := by
  refine parS (fun r => rdy ops D (EEs E0 r) z && !inV D (EEs E0 r) z) chs hok hnd hL0 hsh hD (fun cs hcs hst => ?_) m cs hcs hm
  simp only [Bool.and_eq_true, Bool.not_eq_true', rdy, hz1] at hst
  have hks : ∀ j, j ∈ (cs.flatMap (fun x => bnC x.1 x.2)).map Prod.fst → look L0 j = none := fun j hj => hL0 j (hcs ▸ key_mem hj)
  have hLsub : ∀ j u, look L0 j = some u → look (LLc L0 cs) j = some u := by
    intro j u hj
    unfold LLc
    rw [look_app]
    have : look (cs.flatMap (fun x => bnC x.1 x.2)) j = none := look_key fun hh => by rw [hks j hh] at hj; cases hj
    rw [this]; exact hj
  have hq : OQ P o (LLc L0 cs) none v := ⟨hz6, fun ρ w hρ _ => pv_sound (fun h => hρ _ _ h) (hz7 _ hLsub) w⟩
  refine dQ none hz1 hz2 hz3 hz4 hst.1 hst.2 (fun a ha w hw => .inl ⟨gOk_at (by unfold gOk; rw [hz5]) ha, hq.at ha hw⟩) (fun _ _ => trivial) ?_
  refine dsw (fun j => LLc_z (hcs ▸ hz8) j) (fun e => Iff.rfl) (fun w h => h) ?_
  refine parN chs (fun c hc => ?_) hnd (fun d' hd' => ?_) hsh2 (fun H w h q hq => ?_) k _ cs hcs (Nat.le_refl _)
  · obtain ⟨h1, h2⟩ := hok c hc
    have hx1 : ∀ j u, look L0 j = some u → look ((d, v) :: L0) j = some u := fun j u hj => by
      rw [look_cons]; split
      · rename_i e; subst e; rw [hz9] at hj; cases hj
      · exact hj
    have hx2 : ∀ b j u, look ((c.d1, c.v1 b) :: L0) j = some u → look ((c.d1, c.v1 b) :: (d, v) :: L0) j = some u := fun b j u hj => by
      rw [look_cons] at hj ⊢; split
      · rename_i e; rw [if_pos e] at hj; exact hj
      · rename_i e; rw [if_neg e] at hj; exact hx1 j u hj
    obtain ⟨o1, p1, p2, p3, p4, p5, p6, p7⟩ := h1
    obtain ⟨o2, q1, q2, q3, q4, q5, q6, q7⟩ := h2
    exact ⟨⟨o1, p1, p2, p3, p4, p5, p6, fun H => (p7 H).ext hx1⟩, ⟨o2, q1, q2, q3, q4, q5, q6, fun b H => (q7 b H).ext (hx2 b)⟩⟩
  · rw [look_cons, if_neg (fun e : d = d' => hz8 (by rw [e]; exact hd'))]; exact hL0 d' hd'
  · rcases List.mem_cons.1 hq with rfl | hq
    · exact trivial
    · exact hD H w h q hq
theorem pvFa {o : Oper} {st : TypeId} {j f b off k : Nat} (ho : o.op = .fieldAddr st (.tmp j) f) (hj : look L0 j = some (.pointer (some ⟨b, off, none⟩))) (hk : foff P st f = some k) : ∀ L, (∀ j u, look L0 j = some u → look L j = some u) → pv P o.op L = some (.pointer (some ⟨b, padd off k, none⟩)) := fun L hL => by
  simp only [ho, pv, ev, hL _ _ hj, hk]
section
variable {α β γ : Type} {f : α → List Value} {g : β → List Value} {h : γ → List Value} {sz sz2 sz3 : Nat} {ad ad2 ad3 : Option Addr} {cap cap2 cap3 : Nat} {xs : List α} {ys : List β} {zs : List γ} {e e2 e3 : TypeId}
/-- Two new elements are laid behind two slices; a plain operation z may come early. -/
theorem par2z (z d : Nat) (b1 a1 b2 a2 : Nat) (y : α) (u : β) {d1 d1' d2 d2' : Nat} {te te2 : TypeId} {vs vs2 : List Value} {v : Value} {o : Oper}
    (k : ∀ (q1 q2 : Option Addr × Nat) (x1 x2 : Nat), DS P n ops t s (⟨z, v, none⟩ :: D) (a1 :: b1 :: a2 :: b2 :: E0) ((d1', .slice q1.1 (xs ++ [y]).length q1.2) :: (d1, .slice (some ⟨x1, 0, none⟩) 1 1) :: (d2', .slice q2.1 (ys ++ [u]).length q2.2) :: (d2, .slice (some ⟨x2, 0, none⟩) 1 1) :: (d, v) :: L0) (Ctx J (sl f sz e q1.1 q1.2 (xs ++ [y]) :: sl g sz2 e2 q2.1 q2.2 (ys ++ [u]) :: H0)) Q)
    (h1 : CnOk P n ops t D J L0 (apC f sz e ad cap xs y b1 a1 d1 d1' te vs)) (h2 : CnOk P n ops t D J L0 (apC g sz2 e2 ad2 cap2 ys u b2 a2 d2 d2' te2 vs2))
    (hz1 : ops[z]? = some o := by rfl) (hz2 : Nat.blt z t = true := by rfl) (hz3 : o.dst = some d := by rfl) (hz4 : Nat.blt d n.1 = true := by rfl) (hz5 : o.guard = none := by rfl) (hz6 : selB o.op = false := by rfl) (hz7 : ∀ L, (∀ j u, look L0 j = some u → look L j = some u) → pv P o.op L = some v) (hz8 : d ∉ [d1, d1', d2, d2'] := by decide) (hz9 : look L0 d = none := by rfl)
    (hnd : [d1, d1', d2, d2'].Nodup := by decide) (hl : ∀ d ∈ [d1, d1', d2, d2'], look L0 d = none := by intro d hd; simp only [List.mem_cons, List.not_mem_nil, or_false] at hd; rcases hd with rfl | rfl | rfl | rfl <;> rfl)
    (hsh : (allP [apC f sz e ad cap xs y b1 a1 d1 d1' te vs, apC g sz2 e2 ad2 cap2 ys u b2 a2 d2 d2' te2 vs2]).all (fun r => (rdy ops D (EEs E0 r) z && !inV D (EEs E0 r) z) || (!(NNs r).isEmpty && chkP ops D E0 r)) = true := by rfl)
    (hsh2 : (allP [apC f sz e ad cap xs y b1 a1 d1 d1' te vs, apC g sz2 e2 ad2 cap2 ys u b2 a2 d2 d2' te2 vs2]).all (chkP ops (⟨z, v, none⟩ :: D) E0) = true := by rfl)
    (hD : ∀ w, allJ J w → allH H0 w → allD D w := by intro w j h; repeat' (first | exact trivial | exact h.1 | exact h.2.1 | exact h.2.2.1 | exact h.2.2.2.1 | exact h.2.2.2.2.1 | exact h.2.2.2.2.2.1 | exact j.1 | exact j.2.1 | exact j.2.2.1 | exact j.2.2.2.1 | exact j.2.2.2.2.1 | refine And.intro ?_ ?_)) : DS P n ops t s D E0 L0 (Ctx J (sl f sz e ad cap xs :: sl g sz2 e2 ad2 cap2 ys :: H0)) Q := by
  refine parZ (H0 := H0) z d [apC f sz e ad cap xs y b1 a1 d1 d1' te vs, apC g sz2 e2 ad2 cap2 ys u b2 a2 d2 d2' te2 vs2] (fun c hc => ?_) hnd hl hz1 hz2 hz3 hz4 hz5 hz6 hz7 hz8 hz9 hsh hsh2 (hDs hD) (fun cs hcs hall => ?_) 4 [(_, .z), (_, .z)] rfl (by simp [shp])
  · simp only [List.mem_cons, List.not_mem_nil, or_false] at hc
    rcases hc with rfl | rfl
    · exact h1
    · exact h2
  · match cs, hcs, hall with
    | [(c1, p1), (c2, p2)], hcs, hall =>
      simp only [List.map_cons, List.map_nil, List.cons.injEq, and_true] at hcs
      obtain ⟨rfl, rfl⟩ := hcs
      obtain ⟨x1, q1, rfl⟩ := shp2 (hall _ (List.mem_cons_self ..))
      obtain ⟨x2, q2, rfl⟩ := shp2 (hall _ (List.mem_cons_of_mem _ (List.mem_cons_self ..)))
      exact k q1 q2 x1 x2
/-- Three. -/
theorem par3z (z d : Nat) (b1 a1 b2 a2 b3 a3 : Nat) (y : α) (u : β) (r : γ) {d1 d1' d2 d2' d3 d3' : Nat} {te te2 te3 : TypeId} {vs vs2 vs3 : List Value} {v : Value} {o : Oper}
    (k : ∀ (q1 q2 q3 : Option Addr × Nat) (x1 x2 x3 : Nat), DS P n ops t s (⟨z, v, none⟩ :: D) (a1 :: b1 :: a2 :: b2 :: a3 :: b3 :: E0) ((d1', .slice q1.1 (xs ++ [y]).length q1.2) :: (d1, .slice (some ⟨x1, 0, none⟩) 1 1) :: (d2', .slice q2.1 (ys ++ [u]).length q2.2) :: (d2, .slice (some ⟨x2, 0, none⟩) 1 1) :: (d3', .slice q3.1 (zs ++ [r]).length q3.2) :: (d3, .slice (some ⟨x3, 0, none⟩) 1 1) :: (d, v) :: L0) (Ctx J (sl f sz e q1.1 q1.2 (xs ++ [y]) :: sl g sz2 e2 q2.1 q2.2 (ys ++ [u]) :: sl h sz3 e3 q3.1 q3.2 (zs ++ [r]) :: H0)) Q)
    (h1 : CnOk P n ops t D J L0 (apC f sz e ad cap xs y b1 a1 d1 d1' te vs)) (h2 : CnOk P n ops t D J L0 (apC g sz2 e2 ad2 cap2 ys u b2 a2 d2 d2' te2 vs2)) (h3 : CnOk P n ops t D J L0 (apC h sz3 e3 ad3 cap3 zs r b3 a3 d3 d3' te3 vs3))
    (hz1 : ops[z]? = some o := by rfl) (hz2 : Nat.blt z t = true := by rfl) (hz3 : o.dst = some d := by rfl) (hz4 : Nat.blt d n.1 = true := by rfl) (hz5 : o.guard = none := by rfl) (hz6 : selB o.op = false := by rfl) (hz7 : ∀ L, (∀ j u, look L0 j = some u → look L j = some u) → pv P o.op L = some v) (hz8 : d ∉ [d1, d1', d2, d2', d3, d3'] := by decide) (hz9 : look L0 d = none := by rfl)
    (hnd : [d1, d1', d2, d2', d3, d3'].Nodup := by decide) (hl : ∀ d ∈ [d1, d1', d2, d2', d3, d3'], look L0 d = none := by intro d hd; simp only [List.mem_cons, List.not_mem_nil, or_false] at hd; rcases hd with rfl | rfl | rfl | rfl | rfl | rfl <;> rfl)
    (hsh : (allP [apC f sz e ad cap xs y b1 a1 d1 d1' te vs, apC g sz2 e2 ad2 cap2 ys u b2 a2 d2 d2' te2 vs2, apC h sz3 e3 ad3 cap3 zs r b3 a3 d3 d3' te3 vs3]).all (fun r => (rdy ops D (EEs E0 r) z && !inV D (EEs E0 r) z) || (!(NNs r).isEmpty && chkP ops D E0 r)) = true := by rfl)
    (hsh2 : (allP [apC f sz e ad cap xs y b1 a1 d1 d1' te vs, apC g sz2 e2 ad2 cap2 ys u b2 a2 d2 d2' te2 vs2, apC h sz3 e3 ad3 cap3 zs r b3 a3 d3 d3' te3 vs3]).all (chkP ops (⟨z, v, none⟩ :: D) E0) = true := by rfl)
    (hD : ∀ w, allJ J w → allH H0 w → allD D w := by intro w j h; repeat' (first | exact trivial | exact h.1 | exact h.2.1 | exact h.2.2.1 | exact h.2.2.2.1 | exact h.2.2.2.2.1 | exact h.2.2.2.2.2.1 | exact j.1 | exact j.2.1 | exact j.2.2.1 | exact j.2.2.2.1 | exact j.2.2.2.2.1 | refine And.intro ?_ ?_)) : DS P n ops t s D E0 L0 (Ctx J (sl f sz e ad cap xs :: sl g sz2 e2 ad2 cap2 ys :: sl h sz3 e3 ad3 cap3 zs :: H0)) Q := by
  refine parZ (H0 := H0) z d [apC f sz e ad cap xs y b1 a1 d1 d1' te vs, apC g sz2 e2 ad2 cap2 ys u b2 a2 d2 d2' te2 vs2, apC h sz3 e3 ad3 cap3 zs r b3 a3 d3 d3' te3 vs3] (fun c hc => ?_) hnd hl hz1 hz2 hz3 hz4 hz5 hz6 hz7 hz8 hz9 hsh hsh2 (hDs hD) (fun cs hcs hall => ?_) 6 [(_, .z), (_, .z), (_, .z)] rfl (by simp [shp])
  · simp only [List.mem_cons, List.not_mem_nil, or_false] at hc
    rcases hc with rfl | rfl | rfl
    · exact h1
    · exact h2
    · exact h3
  · match cs, hcs, hall with
    | [(c1, p1), (c2, p2), (c3, p3)], hcs, hall =>
      simp only [List.map_cons, List.map_nil, List.cons.injEq, and_true] at hcs
      obtain ⟨rfl, rfl, rfl⟩ := hcs
      obtain ⟨x1, q1, rfl⟩ := shp2 (hall _ (List.mem_cons_self ..))
      obtain ⟨x2, q2, rfl⟩ := shp2 (hall _ (List.mem_cons_of_mem _ (List.mem_cons_self ..)))
      obtain ⟨x3, q3, rfl⟩ := shp2 (hall _ (List.mem_cons_of_mem _ (List.mem_cons_of_mem _ (List.mem_cons_self ..))))
      exact k q1 q2 q3 x1 x2 x3
end
end
end
end Go.Proofs.YtimemehaccgmmaaGreatDoor
namespace Go.Proofs.YtimemehaccgmmaaGreatDoor
open Go.RowKit
set_option maxRecDepth 100000
set_option linter.unusedSimpArgs false
set_option linter.unusedVariables false
noncomputable section
section
variable {P : Program} {J : List (World → Prop)} {H : List RC}
/-- All that is known, but what the call's own blocks hold. -/
structure Brw (J : List (World → Prop)) (r : RC) (H : List RC) (w : World) : Prop where
  st : ∀ w', Kp (fp (r :: H)) w w' → allJ J w'
  hs : r.A w
  lt : ∀ b ∈ fp (r :: H), b < w.heap.size
  nd : (fp (r :: H)).Nodup
theorem Ctx.brw {r : RC} {w : World} (h : Ctx J (r :: H) w) : Ctx [Brw J r H] H w := by
  refine ⟨fun w' k => ⟨⟨fun w'' k' => h.st w'' ?_, ?_, fun b hb => Nat.lt_of_lt_of_le (h.lt b hb) k.size, h.nd⟩, trivial⟩, h.hs.2, h.rest.lt, h.rest.nd⟩
  · exact k.trans k' (fun x hx => .inl (by simp [fp, hx])) (fun x hx => .inl hx)
  · exact r.kp w w' (fun b hb => k.block b (h.lt b (by simp [fp, hb])) (fun hm => (List.nodup_append.1 h.nd).2.2 b hb b hm rfl)) h.hs.1
theorem Ctx.unbrw {r : RC} {w : World} (h : Ctx [Brw J r H] H w) : Ctx J (r :: H) w := by
  obtain ⟨h1, -⟩ := h.js
  exact ⟨h1.st, ⟨h1.hs, h.hs⟩, h1.lt, h1.nd⟩
/-- What is held is lent to a call that only reads it. -/
theorem brw {F : FuncId} {args : List Value} {X : Type} {v : X → Value} {p : X → Prop} {r : RC} {R : World → Prop} (hA : ∀ w, r.A w → R w) (h : ∀ J', Ent J' R → Ent J' (fun w => allJ J w) → Tr P F args (Ctx J' H) v p (fun _ => Ctx J' H)) : Tr P F args (Ctx J (r :: H)) v p (fun _ => Ctx J (r :: H)) := by
  have := h [Brw J r H] (fun w j => hA w j.1.hs) (fun w j => j.1.st w (Kp.refl _ _))
  refine ⟨fun w hw => (this.go w hw.brw).mono fun e w' ⟨x, h1, h2, h3⟩ => ⟨x, h1, h2, h3.unbrw⟩, this.en⟩
end
end
end Go.Proofs.YtimemehaccgmmaaGreatDoor
namespace Go.Proofs.YtimemehaccgmmaaGreatDoor
open Go.RowKit
set_option maxRecDepth 100000
set_option linter.unusedSimpArgs false
set_option linter.unusedVariables false
noncomputable section
/-- A loop's record. -/
def lr (l : Nat) (r : Loop) : RC := ⟨[l], fun w => w.heap[l]? = some (.loop r), fun w w' h ha => by rw [h l (by simp)]; exact ha⟩
/-- A block of what rounds deferred: nothing. -/
def df (D : Nat) : RC := ⟨[D], fun w => w.heap[D]? = some (.deferred (some [])), fun w w' h ha => by rw [h D (by simp)]; exact ha⟩
def mks (Ds : List Nat) : List Deferred := Ds.map fun D => { target := .collected D, args := #[] }
def dfs (Ds : List Nat) : List RC := Ds.map df
theorem Kp.put (w : World) (b : Nat) (o : Obj) : Kp [b] w (w.putObj b o) :=
  ⟨rfl, rfl, rfl, by simp, fun k hk hn => World.putObj_heap_other (by simpa using hn), Nat.le_refl _⟩
def FW (ro : Option Nat) : Fence := { fn := fun _ => True, depth := none, alive := false, round := ro }
section
variable {P : Program} {ro : Option Nat} {n : Fr} {ops : Array Oper} {o : Oper} {l : List Oper} {s : List KI} {L : Env} {C : World → Prop} {Q : Exit → Act → World → Prop} {J : List (World → Prop)} {H : List RC}
theorem callsIn_fw {f : FuncId} {args : Array Value} {w : World} {R : Ending → World → Prop} (h : Calls P f args w R) : CallsIn (FW ro) 0 P f args w R :=
  (callsIn_wide (n := 0)).2 h
theorem Ctx.putL {r r' : Loop} {l : Nat} {w : World} (h : Ctx J (lr l r :: H) w) : Ctx J (lr l r' :: H) (w.putObj l (.loop r')) :=
  h.upd (Kp.put w l _) (World.putObj_heap_same (h.lt l (by simp [fp, lr]))) (fun b hb => by
    have : b = l := by simpa [lr] using hb
    subst this
    exact ⟨.inl (by simp [lr]), by simpa using h.lt b (by simp [fp, lr])⟩) (by simp [lr])
theorem Ctx.putD {D : Nat} {w : World} (h : Ctx J (df D :: H) w) : Ctx J H (w.putObj D (.deferred none)) :=
  (h.upd (r' := ⟨[], fun _ => True, fun _ _ _ _ => trivial⟩) (Kp.put w D _) trivial (by simp) (by simp)).rest
/-- Operations, in a round or not. -/
def OI (P : Program) (ro : Option Nat) (n : Fr) (ops : Array Oper) (l : List Oper) (L : Env) (C : World → Prop) (Q : Exit → Act → World → Prop) : Prop := ∀ a w, Kn n L a → C w → wpListIn (FW ro) 0 P ops Q l a w
def BI (P : Program) (ro : Option Nat) (n : Fr) (c : Code) (L : Env) (C : World → Prop) (Q : Exit → Act → World → Prop) : Prop := ∀ a w, Kn n L a → C w → c.wpIn (FW ro) 0 P Q a w
theorem oi_nil (h : ∀ a w, Kn n L a → C w → Q .normal a w) : OI P ro n ops [] L C Q := fun a w ha hc => wpListIn_nil (h a w ha hc)
theorem semAt_fw {ro : Option Nat} {ρ : Operand → Value} {o : Oper} (h : ∀ c, o.op ≠ .defer c) : Oper.semAt ro ρ o = execOp ρ o := by
  cases ro with
  | none => exact Oper.semAt_none ρ o
  | some l => exact Oper.semAt_some l ρ o h
theorem oi_s {X : Type} {v : X → Value} {p : X → Prop} {C' : X → World → Prop} (hg : o.guard = none) (hnd : ∀ c, o.op ≠ .defer c) (hd : dOk n o.dst = true) (ho : OS P o L C v p C') (k : ∀ x, p x → OI P ro n ops l (putE o.dst (v x) L) (C' x) Q) : OI P ro n ops (o :: l) L C Q := by
  intro a w ha hc
  refine wpListIn_plain hg fun K hK => ⟨fun _ _ => trivial, ?_⟩
  rw [semAt_fw hnd]
  have h := ho a.eval w (fun x u hx => ev_eval ha.get hx) hc
  generalize (execOp a.eval o).run P w = r at h ⊢
  unfold Yl at h
  split at h
  · obtain ⟨x, rfl, hp, hc'⟩ := h
    exact hK _ _ (k x hp _ _ (ha.put hd _) hc')
  · obtain ⟨x, e, hp, hc'⟩ := h
    exact hK _ _ (by rw [e]; exact k x hp _ _ (ha.put hd _) hc')
  · refine ⟨fun h => (by simp [FW] at h), ?_⟩
    refine callsIn_fw (Calls.mono h fun e w' he => ?_)
    obtain ⟨u, rfl, x, rfl, hp, hc'⟩ := he
    exact hK _ _ (k x hp _ _ (ha.put hd _) hc')
  · exact h.elim
/-- A round. -/
def Yd (P : Program) (l : Nat) (vals : List Value) (C C' : World → Prop) : Prop := ∀ w, C w → ∃ f tmps assign body w1, (Instr.yield l vals.toArray).run P w = .ok (.round l f tmps assign body) w1 ∧
  RoundIn Fence.wide 0 P l f tmps assign body w1 fun e w2 => e = .returned (.bool true) ∧ C' w2
theorem oi_y {C' : World → Prop} {x y z : Operand} {r : Nat} {u1 u2 : Value} {t1 t2 : TypeId} (hg : o.guard = none) (ho : o.op = .call ⟨.value x, ⟨[y, z]⟩, ⟨[t1, t2]⟩⟩) (hd : dOk n o.dst = true) (hx : ev L x = some (.func (.yield r) #[] #[])) (hy : ev L y = some u1) (hz : ev L z = some u2) (h : Yd P r [u1, u2] C C') (k : OI P none n ops l (putE o.dst (.bool true) L) C' Q) : OI P none n ops (o :: l) L C Q := by
  intro a w ha hc
  obtain ⟨f, tmps, assign, body, w1, h1, h2⟩ := h w hc
  refine wpListIn_plain hg fun K hK => ⟨fun _ _ => trivial, ?_⟩
  rw [semAt_fw (fun c e => by rw [ho] at e; cases e)]
  have e1 : (execOp a.eval o).run P w = .ok (.round r f tmps assign body) w1 := by
    have hx' := ev_eval ha.get hx
    have hy' := ev_eval ha.get hy
    have hz' := ev_eval ha.get hz
    simp [execOp, ho, resolve, hx', hy', hz', invoke, Sem.run_bind, Deferred.ofValue]
    exact h1
  rw [e1, Oper.uponIn_round]
  refine ⟨fun h => (by simp [FW] at h), h2.mono ?_⟩
  rintro e w2 ⟨rfl, hc'⟩
  exact hK _ _ (k _ _ (ha.put hd _) hc')
theorem oi_v {u : Value} (hg : o.guard = none) (hv : pv P o.op L = some u) (hd : dOk n o.dst = true) (hnd : (match o.op with | .defer _ => false | _ => true) = true) (k : OI P ro n ops l (putE o.dst u L) C Q) : OI P ro n ops (o :: l) L C Q :=
  oi_s (X := Unit) (v := fun _ => u) (p := fun _ => True) (C' := fun _ => C) hg (fun c e => by rw [e] at hnd; cases hnd) hd (OS.pv () hv fun _ h => h) fun _ _ => k
theorem oi_hk (h : HK P n s L C Q) : OI P none n ops [] L C (Kw P s Q) := oi_nil h
theorem ex_pre {X : Type} {p : X → Prop} {CX : X → World → Prop} (h : ∀ y, p y → HK P n s L (CX y) Q) : HK P n s L (fun w => ∃ y, p y ∧ CX y w) Q := fun a w ha ⟨y, hy, hc⟩ => h y hy a w ha hc
theorem bi_reg {id : Nat} {l : List Oper} (h : OI P ro n l.toArray l L C Q) : BI P ro n (.region id l.toArray false) L C Q := fun a w ha hc => wpIn_region_lit (h a w ha hc)
/-- A region in which a round is called. -/
theorem hk_reg {id : Nat} {l : List Oper} (h : OI P none n l.toArray l L C (Kw P s Q)) : HK P n (.code (.region id l.toArray false) :: s) L C Q := fun a w ha hc => (wpIn_wide (n := 0)).1 (wpIn_region_lit (h a w ha hc))
theorem foldl2 {p0 p1 : Nat} {u0 u1 : Value} {t : Array Value} : ((#[p0, p1] : Array Nat).zip #[u0, u1]).foldl (fun tmps (x : Nat × Value) => tmps.setIfInBounds x.1 x.2) t = (t.setIfInBounds p0 u0).setIfInBounds p1 u1 := by simp
/-- A loop over a function. -/
theorem rf {X : Type} {g : Operand} {p0 p1 : Nat} {assign body : Code} {gf : FuncId} {lb : List Value} {k : Nat} {ds : List Deferred} (N : Nat) (p : Nat → X → Prop) (HX : X → List RC) (u0 u1 : Nat → Value) (La : Env) (Lb : Nat → Env) (x0 : X)
    (hg : ev L g = some (.func (.func gf) #[] ⟨lb⟩)) (h0 : p 0 x0) (hc : ∀ w, C w → Ctx J (HX x0) w) (hen : Enters P gf) (hk0 : Nat.blt p0 k = true) (hk1 : Nat.blt p1 k = true)
    (hit : ∀ (l D : Nat) (r : Loop), (∀ i, i < N → ∀ x, p i x → Yd P l [u0 i, u1 i] (Ctx J (lr l r :: df D :: HX x)) (fun w => ∃ y, p (i + 1) y ∧ Ctx J (lr l r :: df D :: HX y) w)) →
      ∀ w, Ctx J (lr l r :: df D :: HX x0) w → Calls P gf (.func (.yield l) #[] #[] :: lb).toArray w fun e w' => (∃ v, e = .returned v) ∧ ∃ y, p N y ∧ Ctx J (lr l r :: df D :: HX y) w')
    (hassign : ∀ i, i < N → ∀ (l : Nat) (w : World), BI P (some l) (k, []) assign ((p1, u1 i) :: (p0, u0 i) :: L) (fun w' => w' = w) (fun e a w' => e = .normal ∧ w' = w ∧ Kn (k, []) (Lb i) a))
    (hbody : ∀ i, i < N → ∀ x, p i x → ∀ (l D : Nat) (r : Loop), BI P (some l) (k, []) body (Lb i) (Ctx J (lr l r :: df D :: HX x)) (fun e a w' => e = .normal ∧ ∃ y, p (i + 1) y ∧ Ctx J (lr l r :: df D :: HX y) w'))
    (hk : ∀ D y, p N y → HK P (k, { target := .collected D, args := #[] } :: ds) s L (Ctx J (df D :: HX y)) Q) : HK P (k, ds) (.code (.rangeFunc g #[p0, p1] assign body) :: s) L C Q := by
  intro a w ha hcw
  refine (wpIn_wide (n := 0)).1 (wpIn_rangeFunc fun fn _ => ?_)
  obtain ⟨r, hr⟩ : ∃ r : Loop, r = { state := .ready, pending := none, fn := fn, tmps := a.tmps, params := #[p0, p1], assign := assign, body := body, defers := w.heap.size } := ⟨_, rfl⟩
  obtain ⟨W1, hW1⟩ : ∃ W1, (w.alloc (.deferred (some []))).alloc (.loop r) = W1 := ⟨_, rfl⟩
  have c1 : Ctx J (lr (w.heap.size + 1) r :: df w.heap.size :: HX x0) W1 := by
    have h1 : Ctx J (df w.heap.size :: HX x0) (w.alloc (.deferred (some []))) := (hc w hcw).new ((Kp.refl [] w).alloc _) (World.alloc_heap_new w _) (fun b hb => by
      have : b = w.heap.size := by simpa [df] using hb
      subst this; simp) (by simp [df])
    have h2 := h1.new (r' := lr (w.heap.size + 1) r) ((Kp.refl [] _).alloc (.loop r)) (by
      have := World.alloc_heap_new (w.alloc (.deferred (some []))) (.loop r)
      rwa [World.size_alloc] at this) (fun b hb => by
      have : b = w.heap.size + 1 := by simpa [lr] using hb
      subst this; simp) (by simp [lr])
    rw [hW1] at h2; exact h2
  refine ⟨w.heap.size + 1, [{ target := .collected w.heap.size, args := #[] }], W1, { target := .fn (.func gf) ⟨lb⟩, args := #[.func (.yield (w.heap.size + 1)) #[] #[]] }, W1, gf, #[.func (.yield (w.heap.size + 1)) #[] #[]] ++ ⟨lb⟩, W1, ?_, ?_, fun _ _ => trivial, ?_, fun h => (by simp [Fence.wide] at h), ?_⟩
  · rw [← hW1, hr]; exact run_enterLoop_outer _ _ _ _ _
  · have := ev_eval ha.get hg
    have e9 : a.eval (.const (.func (.yield (w.heap.size + 1)) #[] #[])) = .func (.yield (w.heap.size + 1)) #[] #[] := rfl
    simp only [resolve, this, e9]
    simp [Deferred.ofValue, e9]
  · have := hen (.func (.yield (w.heap.size + 1)) #[] #[] :: lb).toArray W1
    simpa [invoke] using this
  · have e0 : (#[.func (.yield (w.heap.size + 1)) #[] #[]] ++ ⟨lb⟩ : Array Value) = (.func (.yield (w.heap.size + 1)) #[] #[] :: lb).toArray := by simp
    rw [e0]
    refine (callsIn_wide (n := 0)).2 ?_
    refine Calls.mono (hit (w.heap.size + 1) w.heap.size r (fun i hi x hx W hW => ?_) W1 c1) ?_
    · have hl : W.heap[w.heap.size + 1]? = some (.loop r) := hW.hs.1
      have hy := run_yield (P := P) (args := [u0 i, u1 i].toArray) hl (by rw [hr]; rfl)
      rw [hr] at hy
      dsimp only at hy
      refine ⟨fn, _, assign, body, W, hy, roundIn_of_wpIn trivial ?_⟩
      have hkn : Kn (k, []) ((p1, u1 i) :: (p0, u0 i) :: L) { tmps := (a.tmps.setIfInBounds p0 (u0 i)).setIfInBounds p1 (u1 i), defers := [] } := by
        have h1 : Kn (k, []) L { tmps := a.tmps, defers := [] } := ⟨ha.size, rfl, ha.get⟩
        have h2 := h1.put (d := some p0) hk0 (u0 i)
        have h3 := h2.put (d := some p1) hk1 (u1 i)
        exact h3
      have e1 : ((#[p0, p1] : Array Nat).zip [u0 i, u1 i].toArray).foldl (fun tmps (x : Nat × Value) => tmps.setIfInBounds x.1 x.2) a.tmps = (a.tmps.setIfInBounds p0 (u0 i)).setIfInBounds p1 (u1 i) := by simp
      rw [e1]
      refine wpIn_mono (hassign i hi _ W _ W hkn rfl) ?_
      rintro e a1 w1 ⟨rfl, rfl, ha1⟩
      have hb := run_beginRound (P := P) hl (by rw [hr])
      refine ⟨_, hb, ?_⟩
      have c2 := hW.putL (r' := { r with state := .busy })
      refine wpIn_mono (hbody i hi x hx _ _ _ a1 _ ha1 c2) ?_
      rintro e a2 w2 ⟨rfl, y, hy2, c3⟩
      have hl3 : w2.heap[w.heap.size + 1]? = some (.loop { r with state := .busy }) := c3.hs.1
      have he := run_endRound (P := P) none hl3
      have c4 := c3.putL (r' := r)
      have er : ({ { r with state := .busy } with state := if (none : Option Code).isNone then .ready else .done, pending := none } : Loop) = r := by rw [hr]; rfl
      rw [er] at he
      exact ⟨_, _, he, rfl, y, hy2, c4⟩
    · rintro e W2 ⟨⟨v, rfl⟩, y, hy, c2⟩
      have hl : W2.heap[w.heap.size + 1]? = some (.loop r) := c2.hs.1
      have he := run_endLoop (P := P) hl (by rw [hr]; simp)
      have c3 := (c2.putL (r' := { r with state := .exhausted })).rest
      refine ⟨r.pending, _, he, ?_⟩
      rw [hr]
      exact hk _ y hy { a with defers := { target := .collected w.heap.size, args := #[] } :: a.defers } _ ⟨ha.size, by show _ :: a.defers = _; rw [ha.defs], ha.get⟩ (by rw [hr] at c3; exact c3)
/-- A function's contract, where loops over functions are. -/
theorem enM {n : Nat} {F : FuncId} {fn : Func} {c : Code} {args : List Value} {X : Type} {v : X → Value} {p : X → Prop} {C' : X → World → Prop} (hf : P.funcs[F]? = some fn) (hb : decF fn = some (n, c)) (hn : Nat.ble args.length n = true) (hm : (fn.name == "runtime.NumGoroutine") = false)
    (h : HK P (n, []) [.code c] (env0 0 args) C (bodyPostM Fence.wide 0 P fn fun e w' => ∃ x, e = .returned (v x) ∧ p x ∧ C' x w')) : Tr P F args C v p C' := by
  obtain ⟨h1, h2⟩ := decF_eq hb
  subst h1
  refine ⟨fun w hC => ?_, fun args w => ?_⟩
  rotate_left
  · have h1 : fn.name ≠ "runtime.NumGoroutine" := by simpa using hm
    simp [callFunc, hf, h1, h2]
  refine (callsIn_wide (n := 0)).1 (callsIn_of_wp_marks hf h2 trivial ((wpIn_wide (n := 0)).2 ?_))
  have hle : args.length ≤ fn.ntmps := Nat.le_of_ble_eq_true hn
  have hk := h { tmps := args.toArray ++ Array.replicate (fn.ntmps - args.toArray.size) undef, defers := [] } w ⟨by simp; omega, rfl, fun j v hj => ?_⟩ hC
  · refine wp_mono hk fun e a w q => ?_
    cases e <;> exact q
  · rw [look_env0] at hj
    simp only [Nat.zero_le, if_true, Nat.sub_zero] at hj
    obtain ⟨h1, h2⟩ := List.getElem?_eq_some_iff.1 hj
    simp [Array.getD_eq_getD_getElem?, Array.getElem?_append, h1, h2]
theorem leaveM {fn : Func} {tmps : Array Value} {R : Ending → World → Prop} (hR : ∀ w, Ctx J H w → ∃ v, (results fn tmps).run P w = .ok v w ∧ R (.returned v) w) : ∀ (Ds : List Nat) (w : World), Ctx J (dfs Ds ++ H) w → LeavesInM Fence.wide 0 P fn tmps R (mks Ds) .returning w
  | [], w, h => hR w h
  | D :: Ds, w, h => ⟨by simp, .inl ⟨D, _, rfl, run_takeDeferred h.hs.1, leaveM hR Ds _ h.putD⟩⟩
theorem rcM {k : Nat} {fn : Func} {X : Type} {v : X → Value} {p : X → Prop} {C' : X → World → Prop} {vs : List Value} (Ds : List Nat) (x : X) (hp : p x) (hC : ∀ w, Ctx J H w → C' x w)
    (h : RL P (Ctx J H) L fn.results.toList vs) (hv : pack vs = v x := by rfl) (hl : Nat.ble vs.length 3 = true := by rfl) : HK P (k, mks Ds) (.code .ret :: s) L (Ctx J (dfs Ds ++ H)) (bodyPostM Fence.wide 0 P fn fun e w' => ∃ x, e = .returned (v x) ∧ p x ∧ C' x w') := by
  intro a w ha hc
  refine wp_ret ?_
  have key : ∀ s : List KI, Kw P s (bodyPostM Fence.wide 0 P fn fun e w' => ∃ x, e = .returned (v x) ∧ p x ∧ C' x w') .ret a w := by
    intro s
    induction s with
    | nil =>
      show LeavesInM Fence.wide 0 P fn a.tmps _ a.defers .returning w
      rw [ha.defs]
      exact leaveM (fun w hc => ⟨v x, hv ▸ (h.step ha hc).sound (by simp) hl, x, rfl, hp, hC w hc⟩) Ds w hc
    | cons k s ih => cases k <;> exact ih
  exact key s
/-- The same, at the text's end. -/
theorem rcMe {k : Nat} {fn : Func} {X : Type} {v : X → Value} {p : X → Prop} {C' : X → World → Prop} {vs : List Value} (Ds : List Nat) (x : X) (hp : p x) (hC : ∀ w, Ctx J H w → C' x w)
    (h : RL P (Ctx J H) L fn.results.toList vs) (hv : pack vs = v x := by rfl) (hl : Nat.ble vs.length 3 = true := by rfl) : HK P (k, mks Ds) [] L (Ctx J (dfs Ds ++ H)) (bodyPostM Fence.wide 0 P fn fun e w' => ∃ x, e = .returned (v x) ∧ p x ∧ C' x w') := by
  intro a w ha hc
  show LeavesInM Fence.wide 0 P fn a.tmps _ a.defers .returning w
  rw [ha.defs]
  exact leaveM (fun w hc => ⟨v x, hv ▸ (h.step ha hc).sound (by simp) hl, x, rfl, hp, hC w hc⟩) Ds w hc
/-- A loop, the frame of which changes. -/
def EdF {X : Type} (nf : X → Fr) (p : X → Prop) (I : X → Env) (CI : X → World → Prop) (a : Act) (w : World) : Prop := ∃ x, p x ∧ Kn (nf x) (I x) a ∧ CI x w
theorem lpF {X : Type} {c : Code} (nf : X → Fr) (p : X → Prop) (I : X → Env) (CI : X → World → Prop) (m : X → Nat) (x0 : X) (hp : p x0) (hn : nf x0 = n) (h0 : (I x0).map (fun p => look L p.1) = (I x0).map (fun p => some p.2)) (hc : ∀ w, C w → CI x0 w)
    (h : ∀ x, p x → HK P (nf x) (.code c :: .cut (EdF nf (fun y => p y ∧ m y < m x) I CI) :: s) (I x) (CI x) Q) : HK P n (.code (.loop c) :: s) L C Q := by
  have key : ∀ (j : Nat) (x : X) (a : Act) (w : World), m x < j → p x → Kn (nf x) (I x) a → CI x w → Code.rounds P c (Kw P s Q) j a w := by
    intro j
    induction j with
    | zero => intro x a w h; omega
    | succ j ih =>
      intro x a w hj hp ha hC
      rw [rounds_succ]
      refine wp_mono (h x hp a w ha hC) fun e a w hk => ?_
      cases e with
      | normal => obtain ⟨y, h1, h2, h3⟩ := hk; exact ih y a w (by omega) h1.1 h2 h3
      | _ => exact hk
  intro a w ha hC
  exact wp_loop_rounds (m x0 + 1) (key _ x0 a w (Nat.lt_succ_self _) hp (by rw [hn]; exact ha.cov h0) (hc w hC))
theorem enF {X : Type} {nf : X → Fr} {p : X → Prop} {I : X → Env} {CI : X → World → Prop} (x : X) (hp : p x) (hn : nf x = n := by rfl) (hc : (I x).map (fun p => look L p.1) = (I x).map (fun p => some p.2) := by first | rfl | simp) (hw : ∀ w, C w → CI x w) : HK P n (.cut (EdF nf p I CI) :: s) L C Q :=
  fun a w ha h => ⟨x, hp, by rw [hn]; exact ha.cov hc, hw w h⟩
theorem ents {n : Nat} {F : FuncId} {fn : Func} {c : Code} (hf : P.funcs[F]? = some fn) (hb : decF fn = some (n, c)) (hm : (fn.name == "runtime.NumGoroutine") = false) : Enters P F := fun args w => by
  obtain ⟨h1, h2⟩ := decF_eq hb
  have h3 : fn.name ≠ "runtime.NumGoroutine" := by simpa using hm
  simp [callFunc, hf, h3, h2]
theorem bi_block {id : Nat} {c : Code} (h : BI P ro n c L C (Exit.inBlock id Q)) : BI P ro n (.block id c) L C Q := fun a w ha hc => wpIn_block (h a w ha hc)
theorem bi_seq {id : Nat} {l : List Oper} {y : Code} (h : OI P ro n l.toArray l L C (Exit.then (fun a w => y.wpIn (FW ro) 0 P Q a w) Q)) : BI P ro n (.seq (.region id l.toArray false) y) L C Q := fun a w ha hc => wpIn_seq (wpIn_region_lit (h a w ha hc))
theorem oi_b {y : Code} {Q' : Exit → Act → World → Prop} (h : BI P ro n y L C Q) : OI P ro n ops [] L C (Exit.then (fun a w => y.wpIn (FW ro) 0 P Q a w) Q') := fun a w ha hc => wpListIn_nil (h a w ha hc)
theorem bi_cond {x : Operand} {b : Bool} {y z : Code} (hx : ev L x = some (.bool b)) (h : BI P ro n (if b then y else z) L C Q) : BI P ro n (.cond x y z) L C Q := fun a w ha hc => wpIn_cond (ev_eval ha.get hx) (h a w ha hc)
theorem bi_skip (h : ∀ a w, Kn n L a → C w → Q .normal a w) : BI P ro n .skip L C Q := fun a w ha hc => wpIn_skip (h a w ha hc)
theorem bi_exit {id : Nat} (h : ∀ a w, Kn n L a → C w → Q (.exit id) a w) : BI P ro n (.exit id) L C Q := fun a w ha hc => wpIn_exit (h a w ha hc)
end
end
end Go.Proofs.YtimemehaccgmmaaGreatDoor
