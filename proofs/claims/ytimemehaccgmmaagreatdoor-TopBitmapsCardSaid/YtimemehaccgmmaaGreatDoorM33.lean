/-
  Parts of the walks and their plain laws (E33 F1 F2 K14). No condition.
-/
import Derived.Test.YtimemehaccgmmaaGreatDoorM32
import Derived.Test.YtimemehaccgmmaaGreatDoorM11
import Derived.Test.YtimemehaccgmmaaGreatDoorM22
import Derived.Test.YtimemehaccgmmaaGreatDoorM26
namespace Go.Proofs.YtimemehaccgmmaaGreatDoor
open Go.RowKit
set_option maxRecDepth 100000
set_option linter.unusedVariables false
set_option linter.unusedSimpArgs false
noncomputable section
section
variable {P : Program} {n : Fr} {t : Nat} {ops : Array Oper} {s : List KI} {L : Env} {Q : Exit → Act → World → Prop} {J : List (World → Prop)} {H : List RC} {D : List Vq} {E : List Nat}
theorem perm_of4 {a b : List Nat} (h : a.Perm b) {A B : List RC} (F : List RC) (ha : a.map (fun i => F[i]?) = A.map some) (hb : b.map (fun i => F[i]?) = B.map some) {H : List RC} : (A ++ H).Perm (B ++ H) := by
  have h1 := h.map (fun i => F[i]?)
  rw [ha, hb] at h1
  have h2 : (A.map some).filterMap id = A := by simp [List.filterMap_map]
  have h3 : (B.map some).filterMap id = B := by simp [List.filterMap_map]
  have h4 := h1.filterMap id
  rw [h2, h3] at h4
  exact h4.append_right H
theorem osP {o : Oper} {C : World → Prop} {v : Value} (hv : pv P o.op L = some v) : OS P o L C (fun _ : Unit => v) (fun _ => True) (fun _ => C) := OS.pv (v := fun _ => v) (C' := fun _ => C) () hv fun _ h => h
set_option maxHeartbeats 2000000 in
/-- Two makes, what is plainly made of them, its box, and a new variable, in any order. (Printed by gE33.py.) -/
theorem parM4 (em ek ep ex ea : Nat) {om ok op ox oa : Oper} {dm dk dp dx da : Nat} {vm vk : Nat → Value} {vp : Nat → Nat → Value} {rm rk : Nat → RC} {tx ta : TypeId} {wx : Nat → Nat → List Value} {wa : List Value}
    (bm : ∀ H, OS P om L (Ctx J H) vm (fun _ => True) (fun y => Ctx J (rm y :: H))) (bk : ∀ H, OS P ok L (Ctx J H) vk (fun _ => True) (fun y => Ctx J (rk y :: H))) (bp : ∀ ym yk, pv P op.op ((dk, vk yk) :: (dm, vm ym) :: L) = some (vp ym yk))
    (bx : ∀ ym yk H, OS P ox ((dp, vp ym yk) :: L) (Ctx J H) (fun b : Nat => .pointer (some ⟨b, 0, none⟩)) (fun _ => True) (fun b => Ctx J (pt b tx (wx ym yk) :: H))) (ba : ∀ H, OS P oa L (Ctx J H) (fun b : Nat => .pointer (some ⟨b, 0, none⟩)) (fun _ => True) (fun b => Ctx J (pt b ta wa :: H)))
    (kk : ∀ ym yk yx ya, DS P n ops t s D (ea :: ex :: ep :: ek :: em :: E) ((da, .pointer (some ⟨ya, 0, none⟩)) :: (dx, .pointer (some ⟨yx, 0, none⟩)) :: (dp, vp ym yk) :: (dk, vk yk) :: (dm, vm ym) :: L) (Ctx J (pt ya ta wa :: pt yx tx (wx ym yk) :: rk yk :: rm ym :: H)) Q)
    (hm1 : ops[em]? = some om := by rfl) (hm2 : Nat.blt em t = true := by rfl) (hm3 : om.dst = some dm := by rfl) (hm4 : Nat.blt dm n.1 = true := by rfl) (hm5 : om.guard = none := by rfl) (hm6 : selB om.op = false := by rfl)
    (hk1 : ops[ek]? = some ok := by rfl) (hk2 : Nat.blt ek t = true := by rfl) (hk3 : ok.dst = some dk := by rfl) (hk4 : Nat.blt dk n.1 = true := by rfl) (hk5 : ok.guard = none := by rfl) (hk6 : selB ok.op = false := by rfl)
    (hp1 : ops[ep]? = some op := by rfl) (hp2 : Nat.blt ep t = true := by rfl) (hp3 : op.dst = some dp := by rfl) (hp4 : Nat.blt dp n.1 = true := by rfl) (hp5 : op.guard = none := by rfl) (hp6 : selB op.op = false := by rfl)
    (hx1 : ops[ex]? = some ox := by rfl) (hx2 : Nat.blt ex t = true := by rfl) (hx3 : ox.dst = some dx := by rfl) (hx4 : Nat.blt dx n.1 = true := by rfl) (hx5 : ox.guard = none := by rfl) (hx6 : selB ox.op = false := by rfl)
    (ha1 : ops[ea]? = some oa := by rfl) (ha2 : Nat.blt ea t = true := by rfl) (ha3 : oa.dst = some da := by rfl) (ha4 : Nat.blt da n.1 = true := by rfl) (ha5 : oa.guard = none := by rfl) (ha6 : selB oa.op = false := by rfl)
    (hck : (ckE ops D (E) [em, ek, ea] && (ckE ops D (em :: E) [ek, ea] && (ckE ops D (ek :: em :: E) [ep, ea] && (ckE ops D (ep :: ek :: em :: E) [ex, ea] && (ckE ops D (ex :: ep :: ek :: em :: E) [ea] && (ckE ops D (ea :: ep :: ek :: em :: E) [ex] && (ckE ops D (ea :: ek :: em :: E) [ep] && (ckE ops D (ep :: ea :: ek :: em :: E) [ex] && (ckE ops D (ea :: em :: E) [ek] && (ckE ops D (ek :: ea :: em :: E) [ep] && (ckE ops D (ep :: ek :: ea :: em :: E) [ex] && (ckE ops D (ek :: E) [em, ea] && (ckE ops D (em :: ek :: E) [ep, ea] && (ckE ops D (ep :: em :: ek :: E) [ex, ea] && (ckE ops D (ex :: ep :: em :: ek :: E) [ea] && (ckE ops D (ea :: ep :: em :: ek :: E) [ex] && (ckE ops D (ea :: em :: ek :: E) [ep] && (ckE ops D (ep :: ea :: em :: ek :: E) [ex] && (ckE ops D (ea :: ek :: E) [em] && (ckE ops D (em :: ea :: ek :: E) [ep] && (ckE ops D (ep :: em :: ea :: ek :: E) [ex] && (ckE ops D (ea :: E) [em, ek] && (ckE ops D (em :: ea :: E) [ek] && (ckE ops D (ek :: em :: ea :: E) [ep] && (ckE ops D (ep :: ek :: em :: ea :: E) [ex] && (ckE ops D (ek :: ea :: E) [em] && (ckE ops D (em :: ek :: ea :: E) [ep] && (ckE ops D (ep :: em :: ek :: ea :: E) [ex])))))))))))))))))))))))))))) = true := by rfl)
    (hnd : [dm, dk, dp, dx, da].Nodup := by decide) (hl : ∀ d ∈ [dm, dk, dp, dx, da], look L d = none := by intro d hd; simp only [List.mem_cons, List.not_mem_nil, or_false] at hd; rcases hd with rfl | rfl | rfl | rfl | rfl <;> rfl) (hD : ∀ w H', Ctx J H' w → ∀ q ∈ D, Fw q.F w) : DS P n ops t s D E L (Ctx J H) Q := by
  simp only [Bool.and_eq_true] at hck
  obtain ⟨c0, c1, c2, c3, c4, c5, c6, c7, c8, c9, c10, c11, c12, c13, c14, c15, c16, c17, c18, c19, c20, c21, c22, c23, c24, c25, c26, c27⟩ := hck
  have lm := hl dm (by simp)
  have lk := hl dk (by simp)
  have lp := hl dp (by simp)
  have lx := hl dx (by simp)
  have la := hl da (by simp)
  simp only [List.nodup_cons, List.mem_cons, List.not_mem_nil, or_false, not_or, List.nodup_nil, and_true, not_false_eq_true] at hnd
  clear hl
  refine stE [em, ek, ea] (by simp) c0 fun j hj => ?_
  rcases List.mem_cons.1 hj with rfl | hj
  · refine ⟨om, dm, hm1, hm2, hm3, hm4, hm5, hm6, Nat, vm, _, (bm (H)).ext (fun j u h => by first | exact h | (simp only [look_cons] at h ⊢; grind)), fun _ w hc => hD w _ hc, fun ym => ?_⟩
    refine stE [ek, ea] (by simp) c1 fun j hj => ?_
    rcases List.mem_cons.1 hj with rfl | hj
    · refine ⟨ok, dk, hk1, hk2, hk3, hk4, hk5, hk6, Nat, vk, _, (bk (rm ym :: H)).ext (fun j u h => by first | exact h | (simp only [look_cons] at h ⊢; grind)), fun _ w hc => hD w _ hc, fun yk => ?_⟩
      refine stE [ep, ea] (by simp) c2 fun j hj => ?_
      rcases List.mem_cons.1 hj with rfl | hj
      · refine ⟨op, dp, hp1, hp2, hp3, hp4, hp5, hp6, Unit, fun _ => vp ym yk, fun _ => Ctx J (rk yk :: rm ym :: H), (osP (bp ym yk)).ext (fun j u h => by first | exact h | (simp only [look_cons] at h ⊢; grind)), fun _ w hc => hD w _ hc, fun _ => ?_⟩
        refine stE [ex, ea] (by simp) c3 fun j hj => ?_
        rcases List.mem_cons.1 hj with rfl | hj
        · refine ⟨ox, dx, hx1, hx2, hx3, hx4, hx5, hx6, Nat, fun b => .pointer (some ⟨b, 0, none⟩), _, (bx ym yk (rk yk :: rm ym :: H)).ext (fun j u h => by first | exact h | (simp only [look_cons] at h ⊢; grind)), fun _ w hc => hD w _ hc, fun yx => ?_⟩
          refine stE [ea] (by simp) c4 fun j hj => ?_
          obtain rfl := List.mem_singleton.1 hj
          refine ⟨oa, da, ha1, ha2, ha3, ha4, ha5, ha6, Nat, fun b => .pointer (some ⟨b, 0, none⟩), _, (ba (pt yx tx (wx ym yk) :: rk yk :: rm ym :: H)).ext (fun j u h => by first | exact h | (simp only [look_cons] at h ⊢; grind)), fun _ w hc => hD w _ hc, fun ya => ?_⟩
          exact kk ym yk yx ya
        · obtain rfl := List.mem_singleton.1 hj
          refine ⟨oa, da, ha1, ha2, ha3, ha4, ha5, ha6, Nat, fun b => .pointer (some ⟨b, 0, none⟩), _, (ba (rk yk :: rm ym :: H)).ext (fun j u h => by first | exact h | (simp only [look_cons] at h ⊢; grind)), fun _ w hc => hD w _ hc, fun ya => ?_⟩
          refine stE [ex] (by simp) c5 fun j hj => ?_
          obtain rfl := List.mem_singleton.1 hj
          refine ⟨ox, dx, hx1, hx2, hx3, hx4, hx5, hx6, Nat, fun b => .pointer (some ⟨b, 0, none⟩), _, (bx ym yk (pt ya ta wa :: rk yk :: rm ym :: H)).ext (fun j u h => by first | exact h | (simp only [look_cons] at h ⊢; grind)), fun _ w hc => hD w _ hc, fun yx => ?_⟩
          exact dsw (fun i => by simp only [look_cons]; grind) (fun e => by simp only [List.mem_cons]; grind) (fun w hc => hc.perm (by exact perm_of4 (A := [pt yx tx (wx ym yk), pt ya ta wa, rk yk, rm ym]) (B := [pt ya ta wa, pt yx tx (wx ym yk), rk yk, rm ym]) (by decide : [2, 3, 1, 0].Perm [3, 2, 1, 0]) [rm ym, rk yk, pt yx tx (wx ym yk), pt ya ta wa] rfl rfl)) (kk ym yk yx ya)
      · obtain rfl := List.mem_singleton.1 hj
        refine ⟨oa, da, ha1, ha2, ha3, ha4, ha5, ha6, Nat, fun b => .pointer (some ⟨b, 0, none⟩), _, (ba (rk yk :: rm ym :: H)).ext (fun j u h => by first | exact h | (simp only [look_cons] at h ⊢; grind)), fun _ w hc => hD w _ hc, fun ya => ?_⟩
        refine stE [ep] (by simp) c6 fun j hj => ?_
        obtain rfl := List.mem_singleton.1 hj
        refine ⟨op, dp, hp1, hp2, hp3, hp4, hp5, hp6, Unit, fun _ => vp ym yk, fun _ => Ctx J (pt ya ta wa :: rk yk :: rm ym :: H), (osP (bp ym yk)).ext (fun j u h => by first | exact h | (simp only [look_cons] at h ⊢; grind)), fun _ w hc => hD w _ hc, fun _ => ?_⟩
        refine stE [ex] (by simp) c7 fun j hj => ?_
        obtain rfl := List.mem_singleton.1 hj
        refine ⟨ox, dx, hx1, hx2, hx3, hx4, hx5, hx6, Nat, fun b => .pointer (some ⟨b, 0, none⟩), _, (bx ym yk (pt ya ta wa :: rk yk :: rm ym :: H)).ext (fun j u h => by first | exact h | (simp only [look_cons] at h ⊢; grind)), fun _ w hc => hD w _ hc, fun yx => ?_⟩
        exact dsw (fun i => by simp only [look_cons]; grind) (fun e => by simp only [List.mem_cons]; grind) (fun w hc => hc.perm (by exact perm_of4 (A := [pt yx tx (wx ym yk), pt ya ta wa, rk yk, rm ym]) (B := [pt ya ta wa, pt yx tx (wx ym yk), rk yk, rm ym]) (by decide : [2, 3, 1, 0].Perm [3, 2, 1, 0]) [rm ym, rk yk, pt yx tx (wx ym yk), pt ya ta wa] rfl rfl)) (kk ym yk yx ya)
    · obtain rfl := List.mem_singleton.1 hj
      refine ⟨oa, da, ha1, ha2, ha3, ha4, ha5, ha6, Nat, fun b => .pointer (some ⟨b, 0, none⟩), _, (ba (rm ym :: H)).ext (fun j u h => by first | exact h | (simp only [look_cons] at h ⊢; grind)), fun _ w hc => hD w _ hc, fun ya => ?_⟩
      refine stE [ek] (by simp) c8 fun j hj => ?_
      obtain rfl := List.mem_singleton.1 hj
      refine ⟨ok, dk, hk1, hk2, hk3, hk4, hk5, hk6, Nat, vk, _, (bk (pt ya ta wa :: rm ym :: H)).ext (fun j u h => by first | exact h | (simp only [look_cons] at h ⊢; grind)), fun _ w hc => hD w _ hc, fun yk => ?_⟩
      refine stE [ep] (by simp) c9 fun j hj => ?_
      obtain rfl := List.mem_singleton.1 hj
      refine ⟨op, dp, hp1, hp2, hp3, hp4, hp5, hp6, Unit, fun _ => vp ym yk, fun _ => Ctx J (rk yk :: pt ya ta wa :: rm ym :: H), (osP (bp ym yk)).ext (fun j u h => by first | exact h | (simp only [look_cons] at h ⊢; grind)), fun _ w hc => hD w _ hc, fun _ => ?_⟩
      refine stE [ex] (by simp) c10 fun j hj => ?_
      obtain rfl := List.mem_singleton.1 hj
      refine ⟨ox, dx, hx1, hx2, hx3, hx4, hx5, hx6, Nat, fun b => .pointer (some ⟨b, 0, none⟩), _, (bx ym yk (rk yk :: pt ya ta wa :: rm ym :: H)).ext (fun j u h => by first | exact h | (simp only [look_cons] at h ⊢; grind)), fun _ w hc => hD w _ hc, fun yx => ?_⟩
      exact dsw (fun i => by simp only [look_cons]; grind) (fun e => by simp only [List.mem_cons]; grind) (fun w hc => hc.perm (by exact perm_of4 (A := [pt yx tx (wx ym yk), rk yk, pt ya ta wa, rm ym]) (B := [pt ya ta wa, pt yx tx (wx ym yk), rk yk, rm ym]) (by decide : [2, 1, 3, 0].Perm [3, 2, 1, 0]) [rm ym, rk yk, pt yx tx (wx ym yk), pt ya ta wa] rfl rfl)) (kk ym yk yx ya)
  rcases List.mem_cons.1 hj with rfl | hj
  · refine ⟨ok, dk, hk1, hk2, hk3, hk4, hk5, hk6, Nat, vk, _, (bk (H)).ext (fun j u h => by first | exact h | (simp only [look_cons] at h ⊢; grind)), fun _ w hc => hD w _ hc, fun yk => ?_⟩
    refine stE [em, ea] (by simp) c11 fun j hj => ?_
    rcases List.mem_cons.1 hj with rfl | hj
    · refine ⟨om, dm, hm1, hm2, hm3, hm4, hm5, hm6, Nat, vm, _, (bm (rk yk :: H)).ext (fun j u h => by first | exact h | (simp only [look_cons] at h ⊢; grind)), fun _ w hc => hD w _ hc, fun ym => ?_⟩
      refine stE [ep, ea] (by simp) c12 fun j hj => ?_
      rcases List.mem_cons.1 hj with rfl | hj
      · refine ⟨op, dp, hp1, hp2, hp3, hp4, hp5, hp6, Unit, fun _ => vp ym yk, fun _ => Ctx J (rm ym :: rk yk :: H), (osP (bp ym yk)).ext (fun j u h => by first | exact h | (simp only [look_cons] at h ⊢; grind)), fun _ w hc => hD w _ hc, fun _ => ?_⟩
        refine stE [ex, ea] (by simp) c13 fun j hj => ?_
        rcases List.mem_cons.1 hj with rfl | hj
        · refine ⟨ox, dx, hx1, hx2, hx3, hx4, hx5, hx6, Nat, fun b => .pointer (some ⟨b, 0, none⟩), _, (bx ym yk (rm ym :: rk yk :: H)).ext (fun j u h => by first | exact h | (simp only [look_cons] at h ⊢; grind)), fun _ w hc => hD w _ hc, fun yx => ?_⟩
          refine stE [ea] (by simp) c14 fun j hj => ?_
          obtain rfl := List.mem_singleton.1 hj
          refine ⟨oa, da, ha1, ha2, ha3, ha4, ha5, ha6, Nat, fun b => .pointer (some ⟨b, 0, none⟩), _, (ba (pt yx tx (wx ym yk) :: rm ym :: rk yk :: H)).ext (fun j u h => by first | exact h | (simp only [look_cons] at h ⊢; grind)), fun _ w hc => hD w _ hc, fun ya => ?_⟩
          exact dsw (fun i => by simp only [look_cons]; grind) (fun e => by simp only [List.mem_cons]; grind) (fun w hc => hc.perm (by exact perm_of4 (A := [pt ya ta wa, pt yx tx (wx ym yk), rm ym, rk yk]) (B := [pt ya ta wa, pt yx tx (wx ym yk), rk yk, rm ym]) (by decide : [3, 2, 0, 1].Perm [3, 2, 1, 0]) [rm ym, rk yk, pt yx tx (wx ym yk), pt ya ta wa] rfl rfl)) (kk ym yk yx ya)
        · obtain rfl := List.mem_singleton.1 hj
          refine ⟨oa, da, ha1, ha2, ha3, ha4, ha5, ha6, Nat, fun b => .pointer (some ⟨b, 0, none⟩), _, (ba (rm ym :: rk yk :: H)).ext (fun j u h => by first | exact h | (simp only [look_cons] at h ⊢; grind)), fun _ w hc => hD w _ hc, fun ya => ?_⟩
          refine stE [ex] (by simp) c15 fun j hj => ?_
          obtain rfl := List.mem_singleton.1 hj
          refine ⟨ox, dx, hx1, hx2, hx3, hx4, hx5, hx6, Nat, fun b => .pointer (some ⟨b, 0, none⟩), _, (bx ym yk (pt ya ta wa :: rm ym :: rk yk :: H)).ext (fun j u h => by first | exact h | (simp only [look_cons] at h ⊢; grind)), fun _ w hc => hD w _ hc, fun yx => ?_⟩
          exact dsw (fun i => by simp only [look_cons]; grind) (fun e => by simp only [List.mem_cons]; grind) (fun w hc => hc.perm (by exact perm_of4 (A := [pt yx tx (wx ym yk), pt ya ta wa, rm ym, rk yk]) (B := [pt ya ta wa, pt yx tx (wx ym yk), rk yk, rm ym]) (by decide : [2, 3, 0, 1].Perm [3, 2, 1, 0]) [rm ym, rk yk, pt yx tx (wx ym yk), pt ya ta wa] rfl rfl)) (kk ym yk yx ya)
      · obtain rfl := List.mem_singleton.1 hj
        refine ⟨oa, da, ha1, ha2, ha3, ha4, ha5, ha6, Nat, fun b => .pointer (some ⟨b, 0, none⟩), _, (ba (rm ym :: rk yk :: H)).ext (fun j u h => by first | exact h | (simp only [look_cons] at h ⊢; grind)), fun _ w hc => hD w _ hc, fun ya => ?_⟩
        refine stE [ep] (by simp) c16 fun j hj => ?_
        obtain rfl := List.mem_singleton.1 hj
        refine ⟨op, dp, hp1, hp2, hp3, hp4, hp5, hp6, Unit, fun _ => vp ym yk, fun _ => Ctx J (pt ya ta wa :: rm ym :: rk yk :: H), (osP (bp ym yk)).ext (fun j u h => by first | exact h | (simp only [look_cons] at h ⊢; grind)), fun _ w hc => hD w _ hc, fun _ => ?_⟩
        refine stE [ex] (by simp) c17 fun j hj => ?_
        obtain rfl := List.mem_singleton.1 hj
        refine ⟨ox, dx, hx1, hx2, hx3, hx4, hx5, hx6, Nat, fun b => .pointer (some ⟨b, 0, none⟩), _, (bx ym yk (pt ya ta wa :: rm ym :: rk yk :: H)).ext (fun j u h => by first | exact h | (simp only [look_cons] at h ⊢; grind)), fun _ w hc => hD w _ hc, fun yx => ?_⟩
        exact dsw (fun i => by simp only [look_cons]; grind) (fun e => by simp only [List.mem_cons]; grind) (fun w hc => hc.perm (by exact perm_of4 (A := [pt yx tx (wx ym yk), pt ya ta wa, rm ym, rk yk]) (B := [pt ya ta wa, pt yx tx (wx ym yk), rk yk, rm ym]) (by decide : [2, 3, 0, 1].Perm [3, 2, 1, 0]) [rm ym, rk yk, pt yx tx (wx ym yk), pt ya ta wa] rfl rfl)) (kk ym yk yx ya)
    · obtain rfl := List.mem_singleton.1 hj
      refine ⟨oa, da, ha1, ha2, ha3, ha4, ha5, ha6, Nat, fun b => .pointer (some ⟨b, 0, none⟩), _, (ba (rk yk :: H)).ext (fun j u h => by first | exact h | (simp only [look_cons] at h ⊢; grind)), fun _ w hc => hD w _ hc, fun ya => ?_⟩
      refine stE [em] (by simp) c18 fun j hj => ?_
      obtain rfl := List.mem_singleton.1 hj
      refine ⟨om, dm, hm1, hm2, hm3, hm4, hm5, hm6, Nat, vm, _, (bm (pt ya ta wa :: rk yk :: H)).ext (fun j u h => by first | exact h | (simp only [look_cons] at h ⊢; grind)), fun _ w hc => hD w _ hc, fun ym => ?_⟩
      refine stE [ep] (by simp) c19 fun j hj => ?_
      obtain rfl := List.mem_singleton.1 hj
      refine ⟨op, dp, hp1, hp2, hp3, hp4, hp5, hp6, Unit, fun _ => vp ym yk, fun _ => Ctx J (rm ym :: pt ya ta wa :: rk yk :: H), (osP (bp ym yk)).ext (fun j u h => by first | exact h | (simp only [look_cons] at h ⊢; grind)), fun _ w hc => hD w _ hc, fun _ => ?_⟩
      refine stE [ex] (by simp) c20 fun j hj => ?_
      obtain rfl := List.mem_singleton.1 hj
      refine ⟨ox, dx, hx1, hx2, hx3, hx4, hx5, hx6, Nat, fun b => .pointer (some ⟨b, 0, none⟩), _, (bx ym yk (rm ym :: pt ya ta wa :: rk yk :: H)).ext (fun j u h => by first | exact h | (simp only [look_cons] at h ⊢; grind)), fun _ w hc => hD w _ hc, fun yx => ?_⟩
      exact dsw (fun i => by simp only [look_cons]; grind) (fun e => by simp only [List.mem_cons]; grind) (fun w hc => hc.perm (by exact perm_of4 (A := [pt yx tx (wx ym yk), rm ym, pt ya ta wa, rk yk]) (B := [pt ya ta wa, pt yx tx (wx ym yk), rk yk, rm ym]) (by decide : [2, 0, 3, 1].Perm [3, 2, 1, 0]) [rm ym, rk yk, pt yx tx (wx ym yk), pt ya ta wa] rfl rfl)) (kk ym yk yx ya)
  · obtain rfl := List.mem_singleton.1 hj
    refine ⟨oa, da, ha1, ha2, ha3, ha4, ha5, ha6, Nat, fun b => .pointer (some ⟨b, 0, none⟩), _, (ba (H)).ext (fun j u h => by first | exact h | (simp only [look_cons] at h ⊢; grind)), fun _ w hc => hD w _ hc, fun ya => ?_⟩
    refine stE [em, ek] (by simp) c21 fun j hj => ?_
    rcases List.mem_cons.1 hj with rfl | hj
    · refine ⟨om, dm, hm1, hm2, hm3, hm4, hm5, hm6, Nat, vm, _, (bm (pt ya ta wa :: H)).ext (fun j u h => by first | exact h | (simp only [look_cons] at h ⊢; grind)), fun _ w hc => hD w _ hc, fun ym => ?_⟩
      refine stE [ek] (by simp) c22 fun j hj => ?_
      obtain rfl := List.mem_singleton.1 hj
      refine ⟨ok, dk, hk1, hk2, hk3, hk4, hk5, hk6, Nat, vk, _, (bk (rm ym :: pt ya ta wa :: H)).ext (fun j u h => by first | exact h | (simp only [look_cons] at h ⊢; grind)), fun _ w hc => hD w _ hc, fun yk => ?_⟩
      refine stE [ep] (by simp) c23 fun j hj => ?_
      obtain rfl := List.mem_singleton.1 hj
      refine ⟨op, dp, hp1, hp2, hp3, hp4, hp5, hp6, Unit, fun _ => vp ym yk, fun _ => Ctx J (rk yk :: rm ym :: pt ya ta wa :: H), (osP (bp ym yk)).ext (fun j u h => by first | exact h | (simp only [look_cons] at h ⊢; grind)), fun _ w hc => hD w _ hc, fun _ => ?_⟩
      refine stE [ex] (by simp) c24 fun j hj => ?_
      obtain rfl := List.mem_singleton.1 hj
      refine ⟨ox, dx, hx1, hx2, hx3, hx4, hx5, hx6, Nat, fun b => .pointer (some ⟨b, 0, none⟩), _, (bx ym yk (rk yk :: rm ym :: pt ya ta wa :: H)).ext (fun j u h => by first | exact h | (simp only [look_cons] at h ⊢; grind)), fun _ w hc => hD w _ hc, fun yx => ?_⟩
      exact dsw (fun i => by simp only [look_cons]; grind) (fun e => by simp only [List.mem_cons]; grind) (fun w hc => hc.perm (by exact perm_of4 (A := [pt yx tx (wx ym yk), rk yk, rm ym, pt ya ta wa]) (B := [pt ya ta wa, pt yx tx (wx ym yk), rk yk, rm ym]) (by decide : [2, 1, 0, 3].Perm [3, 2, 1, 0]) [rm ym, rk yk, pt yx tx (wx ym yk), pt ya ta wa] rfl rfl)) (kk ym yk yx ya)
    · obtain rfl := List.mem_singleton.1 hj
      refine ⟨ok, dk, hk1, hk2, hk3, hk4, hk5, hk6, Nat, vk, _, (bk (pt ya ta wa :: H)).ext (fun j u h => by first | exact h | (simp only [look_cons] at h ⊢; grind)), fun _ w hc => hD w _ hc, fun yk => ?_⟩
      refine stE [em] (by simp) c25 fun j hj => ?_
      obtain rfl := List.mem_singleton.1 hj
      refine ⟨om, dm, hm1, hm2, hm3, hm4, hm5, hm6, Nat, vm, _, (bm (rk yk :: pt ya ta wa :: H)).ext (fun j u h => by first | exact h | (simp only [look_cons] at h ⊢; grind)), fun _ w hc => hD w _ hc, fun ym => ?_⟩
      refine stE [ep] (by simp) c26 fun j hj => ?_
      obtain rfl := List.mem_singleton.1 hj
      refine ⟨op, dp, hp1, hp2, hp3, hp4, hp5, hp6, Unit, fun _ => vp ym yk, fun _ => Ctx J (rm ym :: rk yk :: pt ya ta wa :: H), (osP (bp ym yk)).ext (fun j u h => by first | exact h | (simp only [look_cons] at h ⊢; grind)), fun _ w hc => hD w _ hc, fun _ => ?_⟩
      refine stE [ex] (by simp) c27 fun j hj => ?_
      obtain rfl := List.mem_singleton.1 hj
      refine ⟨ox, dx, hx1, hx2, hx3, hx4, hx5, hx6, Nat, fun b => .pointer (some ⟨b, 0, none⟩), _, (bx ym yk (rm ym :: rk yk :: pt ya ta wa :: H)).ext (fun j u h => by first | exact h | (simp only [look_cons] at h ⊢; grind)), fun _ w hc => hD w _ hc, fun yx => ?_⟩
      exact dsw (fun i => by simp only [look_cons]; grind) (fun e => by simp only [List.mem_cons]; grind) (fun w hc => hc.perm (by exact perm_of4 (A := [pt yx tx (wx ym yk), rm ym, rk yk, pt ya ta wa]) (B := [pt ya ta wa, pt yx tx (wx ym yk), rk yk, rm ym]) (by decide : [2, 0, 1, 3].Perm [3, 2, 1, 0]) [rm ym, rk yk, pt yx tx (wx ym yk), pt ya ta wa] rfl rfl)) (kk ym yk yx ya)
end
section
variable {J : List (World → Prop)} {H : List RC} {x : Nat × Q2} {ids : List Nat} {m b : Nat}
theorem cFAll : Tr TP 101 [pb x.1] (Ctx J H) (fun b : Nat => .func (.func 180) #[] #[pb b]) (fun _ => True) (fun b => Ctx ((pt b 43 [pb x.1]).A :: J) H) := by
  refine en0 Tryz.func101 rfl rfl rfl (go ?_)
  intro b
  refine fzp ?_
  exact rt b trivial rfl (fun _ h => h)
set_option maxHeartbeats 2000000 in
theorem it180 {X : Type} {p : Nat → X → Prop} {HX : X → List RC} {x0 : X} (h0 : p 0 x0) (hm : m ≤ 200) (hb : ids.length ≤ 1000) (hl : ∀ x ∈ ids, x < m) (hJ : Ent J (Bn (Fwd x ids m))) (hJ2 : Ent J (pt b 43 [pb x.1]).A) (l D : Nat) (r : Loop)
    (hy : ∀ i, i < ids.length → ∀ y, p i y → Yd TP l [.int .i64 (i : Nat), .int .i64 (ids.getD i 0 : Nat)] (Ctx J (lr l r :: df D :: HX y)) (fun w => ∃ z, p (i + 1) z ∧ Ctx J (lr l r :: df D :: HX z) w)) :
    ∀ w, Ctx J (lr l r :: df D :: HX x0) w → Calls TP 180 [.func (.yield l) #[] #[], pb b].toArray w fun e w' => (∃ v, e = .returned v) ∧ ∃ y, p ids.length y ∧ Ctx J (lr l r :: df D :: HX y) w' := by
  have key : Tr TP 180 [.func (.yield l) #[] #[], pb b] (Ctx J (lr l r :: df D :: HX x0)) (fun _ : X => .tuple #[]) (fun y => p ids.length y) (fun y => Ctx J (lr l r :: df D :: HX y)) := by
    refine en0 Tryz.func180 rfl rfl rfl ?_
    refine addJ hJ2 (go ?_)
    refine ca (cFLen (ids := ids) (hJ := fun w j => hJ w j.2)) fun _ _ => ?_
    refine go ?_
    refine lp (X := Nat × X) (fun y => y.1 ≤ ids.length ∧ p y.1 y.2) (fun (i, y) => [(0, .func (.yield l) #[] #[]), (1, pb b), (7, .int .i64 ids.length), (8, .int .i64 i)])
      (fun (i, y) => Ctx ((pt b 43 [pb x.1]).A :: J) (lr l r :: df D :: HX y)) (fun y => ids.length - y.1) (0, x0) ⟨by dsimp only; omega, h0⟩ rfl (fun _ h => h) fun (i, y) ⟨hi, hp⟩ => ?_
    dsimp only at hi hp
    refine go ?_
    refine ⟨fun h1 => ?_, fun h1 => ?_⟩
    · have hi1 : i < ids.length := by omega
      refine go ?_
      refine ca (cFGet (x := x) (ids := ids) (m := m) (hi := hi1) (hl := hl _ (List.getElem_mem hi1)) (hJ := fun w j => hJ w j.2)) fun _ _ => ?_
      refine adv_sound 7 [] rfl ?_
      refine hk_reg ?_
      refine oi_v rfl rfl rfl rfl (oi_v rfl rfl rfl rfl (oi_v rfl rfl rfl rfl ?_))
      refine oi_y rfl rfl rfl rfl rfl rfl (by have := hy i hi1 y hp; rw [List.getD_eq_getElem?_getD, List.getElem?_eq_getElem hi1] at this; exact fun w hw => this w (hw.ent fun _ j => j.2)) ?_
      refine oi_v rfl rfl rfl rfl (oi_hk (ex_pre fun z hz => ?_))
      refine addJ hJ2 ?_
      refine go ?_
      exact en (i + 1, z) ⟨⟨by dsimp only; omega, hz⟩, by dsimp only; omega⟩ rfl (fun _ h => h)
    · obtain rfl : i = ids.length := by omega
      refine go ?_
      exact rtE y hp rfl (fun _ h => h.ent fun _ j => j.2)
  intro w hw
  exact Calls.mono (key.go w hw) fun e w' ⟨y, h1, h2, h3⟩ => ⟨⟨_, h1⟩, y, h2, h3⟩
end
theorem pk_B8 (l : List Nat) (w : Nat) : B8 (pk l w) := fun x hx => by
  simp only [pk, pkT, List.mem_map] at hx
  obtain ⟨j, -, rfl⟩ := hx
  have : pkY l w (l.length * w) j < 256 := b8_lt _
  omega
theorem B8.app {a b : List Int} (h : B8 a) (k : B8 b) : B8 (a ++ b) := fun x hx => (List.mem_append.1 hx).elim (h x) (k x)
theorem fwd_B8 {ids : List Nat} {m : Nat} (hm : m ≤ 200) : B8 (fwdB ids m) := by
  have hw := wid_le hm
  refine (((le_B8 _ _).app (le_B8 _ _)).app fun x hx => ?_).app (pk_B8 _ _)
  rw [List.mem_singleton.1 hx]; omega
section
variable {J : List (World → Prop)} {H : List RC} {ad : Option Addr} {cap m : Nat} {ids : List Nat}
set_option maxHeartbeats 4000000 in
theorem cFRead (hm : m ≤ 200) (hb : ids.length ≤ 1000) (hl : ∀ x ∈ ids, x < m) (h0 : 1 ≤ m ∨ ids = []) (hJ : Ent J (Rs f8 1 ad cap (fwdB ids m)) := by exact jA) :
    Tr TP 97 [.slice ad (fwdB ids m).length cap, .int .i64 ids.length, .int .i64 m] (Ctx J H) (fun x : Nat × Q2 => .tuple #[pb x.1, .int .i64 0]) (fun _ => True) (fun x => Ctx (Bn (Fwd x ids m) :: J) H) := by
  have hw : 1 ≤ wid m ∧ wid m ≤ 8 := wid_le hm
  have h0' : 1 ≤ m ∨ ids.length = 0 := by rcases h0 with h | h; exact .inl h; exact .inr (by simp [h])
  have hlw : ids.length * wid m ≤ 1000 * 8 := Nat.mul_le_mul hb hw.2
  have hpl : (pk ids (wid m)).length = (ids.length * wid m + 7) / 8 := by simp [pk]
  have h8 : B8 (fwdB ids m) := fwd_B8 hm
  have hlen : (fwdB ids m).length = 9 + (pk ids (wid m)).length := by simp [fwdB]; omega
  have s1 : sub (fwdB ids m) 0 (0 + 4) = le 4 ids.length := sub_at [] (le 4 ids.length) (le 4 m ++ [(wid m : Int)] ++ pk ids (wid m)) (by simp [fwdB]) rfl (by simp)
  have s2 : sub (fwdB ids m) 4 (4 + 4) = le 4 m := sub_at (le 4 ids.length) (le 4 m) ([(wid m : Int)] ++ pk ids (wid m)) (by simp [fwdB]) (by simp) (by simp)
  have s3 : sub (fwdB ids m) 8 (8 + 1) = [(wid m : Int)] := sub_at (le 4 ids.length ++ le 4 m) [(wid m : Int)] (pk ids (wid m)) (by simp [fwdB]) (by simp) (by simp)
  have s4 : sub (fwdB ids m) 9 (9 + (pk ids (wid m)).length) = pk ids (wid m) := sub_at (le 4 ids.length ++ le 4 m ++ [(wid m : Int)]) (pk ids (wid m)) [] (by simp [fwdB]) (by simp) (by simp)
  generalize hX : fwdB ids m = X at *
  refine enM Tryz.func97 rfl rfl rfl (addJ hJ (go ?_))
  intro b1 b2
  refine cg (cNew (xs := X)) fun ⟨b, r⟩ _ => ?_
  refine ca (gU32 (v := (ids.length : Int)) s1 (by omega) (by omega) (by omega) h8) fun _ _ => ?_
  refine go ?_
  refine ca (gU32 (v := (m : Int)) s2 (by omega) (by omega) (by omega) h8) fun _ _ => ?_
  refine go ?_
  refine ca (gU8 (i := 0 + 4 + 4) (v := (wid m : Int)) s3 (by omega) (by omega) h8) fun _ _ => ?_
  refine go ?_
  intro b3
  refine cg (cSize (n := ids.length) (w := wid m) (by omega)) fun _ _ => ?_
  refine frc 1 rfl ?_
  refine cg cBad fun _ _ => ?_
  refine ⟨fun h => absurd rfl h, fun _ => ?_⟩
  refine go ?_
  refine cg (cMayF (n := ids.length) (m := m) (by omega)) fun _ _ => ?_
  refine cg (cWid (m := m) hm) fun _ _ => ?_
  refine cg (cLeft (i := 0 + 4 + 4 + 1) (by omega) (by omega)) fun _ _ => ?_
  refine cg (cLeft (i := 0 + 4 + 4 + 1) (by omega) (by omega)) fun _ _ => ?_
  rw [← hpl]
  refine cg (cBytes (xs := X) (i := 0 + 4 + 4 + 1) (m := (pk ids (wid m)).length) (hi := by omega) (hb := by omega)) fun u _ => ?_
  rw [s4]
  intro z
  refine fzpc (fzc ?_)
  refine cg (cUnpack (l := ids) (w := wid m) (hl := fun x hx => ids_lt (hl x hx))) fun u2 _ => ?_
  refine ca (cFAll (x := (z, u))) fun y _ => ?_
  refine adv_sound 400 [] rfl ?_
  refine rf (X := Unit) ids.length (fun _ _ => True) (fun _ => _) (fun i => .int .i64 (i : Nat)) (fun i => .int .i64 (ids.getD i 0 : Nat)) [] (fun i => [(17, .int .i64 (ids.getD i 0 : Nat)), (10, pb b3)]) () rfl trivial (fun _ h => h) (ents Tryz.func180 rfl rfl) rfl rfl (fun l D r hy => it180 (x := (z, u)) (p := fun _ _ => True) (HX := fun _ : Unit => _) (x0 := ()) trivial hm hb hl ?_ ?_ l D r hy)
    (fun i hi l w => bi_reg (oi_v rfl rfl rfl rfl (oi_nil fun a w' ha hc => ⟨rfl, hc, ha.cov rfl⟩))) (fun i hi _ _ l D r => ?_) (fun D _ _ => ?_)
  · exact fun w j => ⟨j.2.2.1, j.2.1, trivial⟩
  · exact fun w j => j.1
  · have hid : ids.getD i 0 < m := by rw [List.getD_eq_getElem?_getD, List.getElem?_eq_getElem hi]; exact hl _ (List.getElem_mem hi)
    refine bi_block (bi_seq ?_)
    refine oi_v rfl rfl rfl rfl ?_
    refine oi_s (X := Unit) (C' := fun _ => _) rfl (fun c e => by cases e) rfl ((qLd rfl rfl rfl).os (fun _ h => h.at (k := 4) rfl)) fun _ _ => ?_
    refine oi_v rfl rfl rfl rfl (oi_b ?_)
    rw [show decide ((m : Int) ≤ (ids.getD i 0 : Nat)) = false from decide_eq_false (by omega)]
    refine bi_cond rfl ?_
    exact bi_skip fun a w ha hc => ⟨rfl, (), trivial, hc⟩
  · refine go ?_
    exact rcM [D] (z, u) trivial (fun w h => h.rest.rest.rest.rest.rest.ent fun _ j => ⟨⟨j.2.2.1, j.2.1, trivial⟩, j.2.2.2.2.2⟩) (RL.cell rfl (fun _ h => h.at (k := 4) rfl) rfl (RL.cell rfl (fun _ h => h.at (k := 3) rfl) rfl RL.nil))
end
/-- How many kids there are. -/
def kt (N : List PN) : Nat := (N.map fun x => x.kids.length).sum
theorem kt_app (a b : List PN) : kt (a ++ b) = kt a + kt b := by simp [kt]
theorem kt_set (N : List PN) (n : Nat) (x : PN) : kt (N.set n x) ≤ kt N + x.kids.length := by
  induction N generalizing n with
  | nil => simp [kt]
  | cons a N ih =>
    cases n with
    | zero => simp [kt]; omega
    | succ n => have := ih n; simp only [kt, List.set_cons_succ, List.map_cons, List.sum_cons] at this ⊢; omega
theorem kt_mem {N : List PN} {x : PN} (h : x ∈ N) : x.kids.length ≤ kt N := by
  obtain ⟨a, b, rfl⟩ := List.append_of_mem h
  rw [kt_app]; simp [kt]; omega
theorem kids_kt {g : Nat → Nat → St → St} (hg : ∀ a e T, kt (g a e T).N + T.N.length + 1 ≤ kt T.N + (g a e T).N.length) (R : List Pl) (d q : Nat) : ∀ n a S ks, kt (kidsP g R d q n a S ks).1.N + S.N.length + (kidsP g R d q n a S ks).2.length ≤ kt S.N + (kidsP g R d q n a S ks).1.N.length + ks.length
  | 0, a, S, ks => by unfold kidsP; dsimp only; omega
  | n + 1, a, S, ks => by
    unfold kidsP
    split
    · have h1 := kids_kt hg R d q n (runEnd R d (idAt R a d) (q - a) a) (g a (runEnd R d (idAt R a d) (q - a) a) S) (ks ++ [(idAt R a d, S.N.length)])
      have h2 := hg a (runEnd R d (idAt R a d) (q - a) a) S
      rw [List.length_append, List.length_singleton] at h1
      omega
    · dsimp only; omega
theorem grow_kt (leaf k : Nat) : ∀ f st p q S, kt (growP leaf k f st p q S).N + S.N.length + 1 ≤ kt S.N + (growP leaf k f st p q S).N.length
  | 0, st, p, q, S => by
    unfold growP
    dsimp only
    rw [kt_app]; simp [kt]; omega
  | f + 1, st, p, q, S => by
    unfold growP
    split
    · dsimp only
      rw [kt_app]; simp [kt]; omega
    · have hk := kids_kt (g := fun a e T => growP leaf k f st a e T) (fun a e T => grow_kt leaf k f st a e T) S.R (k - (f + 1)) q (q - p) p ⟨S.R, S.N ++ [⟨k - (f + 1), p, q, []⟩]⟩ []
      generalize kidsP (fun a e T => growP leaf k f st a e T) S.R (k - (f + 1)) q (q - p) p ⟨S.R, S.N ++ [⟨k - (f + 1), p, q, []⟩]⟩ [] = r at *
      dsimp only at hk ⊢
      rw [kt_app] at hk
      have e0 : kt [⟨k - (f + 1), p, q, []⟩] = 0 := rfl
      rw [e0, List.length_append, List.length_singleton, List.length_nil] at hk
      split
      · have h1 := kt_set r.1.N S.N.length ⟨(r.1.N.getD S.N.length default).d, (r.1.N.getD S.N.length default).f, (r.1.N.getD S.N.length default).t, r.2⟩
        dsimp only at h1 ⊢
        rw [setKids_len]
        unfold setKids
        omega
      · have hT := grow_kt leaf k f true r.1.R.length (r.1.R.length + (starRecs r.1.R (k - (f + 1)) p q).length) ⟨r.1.R ++ starRecs r.1.R (k - (f + 1)) p q, r.1.N⟩
        generalize growP leaf k f true r.1.R.length (r.1.R.length + (starRecs r.1.R (k - (f + 1)) p q).length) ⟨r.1.R ++ starRecs r.1.R (k - (f + 1)) p q, r.1.N⟩ = T at *
        have h1 := kt_set T.N S.N.length ⟨(T.N.getD S.N.length default).d, (T.N.getD S.N.length default).f, (T.N.getD S.N.length default).t, r.2 ++ [(-1, r.1.N.length)]⟩
        dsimp only at h1 hT ⊢
        rw [List.length_append, List.length_singleton] at h1
        rw [setKids_len]
        unfold setKids
        omega
theorem fm_sum {α : Type} {g : α → List Int} {h : α → Nat} {c : Nat} : ∀ {l : List α}, (∀ x ∈ l, (g x).length ≤ c + 8 * h x) → (l.flatMap g).length ≤ l.length * c + 8 * (l.map h).sum
  | [], _ => by simp
  | x :: l, hx' => by
    have h1 := fm_sum (l := l) fun y hy => hx' y (List.mem_cons_of_mem _ hy)
    have h2 := hx' x (List.mem_cons_self ..)
    rw [List.flatMap_cons, List.length_append, List.length_cons, Nat.succ_mul, List.map_cons, List.sum_cons]
    omega
theorem kids_len (l : List (Int × Nat)) : (l.flatMap kidB).length = 8 * l.length := by
  induction l with
  | nil => rfl
  | cons x l ih => rw [List.flatMap_cons, List.length_append, ih]; simp [kidB, idB]; omega
theorem figs_len (l : List Fig) : (l.flatMap figB).length = 24 * l.length := by
  induction l with
  | nil => rfl
  | cons x l ih => rw [List.flatMap_cons, List.length_append, ih]; simp [figB]; omega
theorem ids_len (l : List Int) : (l.flatMap idB).length = 4 * l.length := by
  induction l with
  | nil => rfl
  | cons x l ih => rw [List.flatMap_cons, List.length_append, ih]; simp [idB]; omega
/-- How great a tree is. -/
structure TrOk (k m : Nat) (S : St) : Prop where
  r : S.R.length ≤ 300
  n : S.N.length ≤ 20000
  kd : ∀ x ∈ S.N, x.kids.length ≤ 20000
  b : (treeB k m S).length ≤ 1000000
theorem of_ok {leaf k m : Nat} {L : List Pl} (hk : k ≤ 4) (hm : m ≤ 20) (hL : L.length ≤ 60) (hf : ∀ r ∈ (ofS leaf k L).R, r.2.2.length = m) : TrOk k m (ofS leaf k L) := by
  have hr : (ofS leaf k L).R.length ≤ 300 := by
    have h1 := of_len leaf k L
    have h2 : (k + 1) * L.length ≤ 5 * 60 := Nat.mul_le_mul (by omega) hL
    omega
  have hn : (ofS leaf k L).N.length ≤ 15616 := by
    have h1 := (grow_bound leaf k k false 0 (togs L).length ⟨togs L, []⟩ (by omega)).2
    have h2 := togs_len L
    have hp4 : 4 ^ k ≤ 4 ^ 4 := Nat.pow_le_pow_right (by omega) hk
    have hmul : 4 ^ k * ((togs L).length - 0 + 1) ≤ 256 * 61 := Nat.mul_le_mul hp4 (by omega)
    simp only [List.length_nil, Nat.zero_add] at h1
    unfold ofS; omega
  have hkt : kt (ofS leaf k L).N + 1 ≤ (ofS leaf k L).N.length := by
    have h1 := grow_kt leaf k k false 0 (togs L).length ⟨togs L, []⟩
    have e0 : kt [] = 0 := rfl
    simp only [e0, List.length_nil] at h1
    unfold ofS; omega
  generalize ofS leaf k L = S at *
  refine ⟨hr, by omega, fun x hx' => by have := kt_mem hx'; omega, ?_⟩
  have h1 : (S.R.flatMap (recB k)).length ≤ S.R.length * 600 := flat_le fun r hr' => by
    have h2 := hf r hr'
    have h3 : (r.1.take k).length ≤ 4 := by rw [List.length_take]; omega
    simp only [recB, List.length_append, le_len, figs_len, ids_len, h2]; omega
  have h2 : (S.N.flatMap nodB).length ≤ S.N.length * 13 + 8 * kt S.N := fm_sum (h := fun x : PN => x.kids.length) fun x _ => by
    simp only [nodB, List.length_append, le_len, kids_len]; omega
  simp only [treeB, List.length_append, le_len]
  omega
theorem tree_B8 (k m : Nat) (S : St) : B8 (treeB k m S) := by
  have hid : ∀ l : List Int, B8 (l.flatMap idB) := fun l y hy => by
    obtain ⟨x, -, h⟩ := List.mem_flatMap.1 hy
    exact le_B8 _ _ y h
  refine ((((((le_B8 _ _).app (le_B8 _ _)).app (le_B8 _ _)).app fun y hy => ?_).app (le_B8 _ _)).app fun y hy => ?_)
  · obtain ⟨r, -, h⟩ := List.mem_flatMap.1 hy
    refine ((hid _).app (le_B8 _ _)).app (fun z hz => ?_) y h
    obtain ⟨f, -, h⟩ := List.mem_flatMap.1 hz
    exact (((le_B8 _ _).app (le_B8 _ _)).app (le_B8 _ _)) z h
  · obtain ⟨n, -, h⟩ := List.mem_flatMap.1 hy
    refine ((((le_B8 _ _).app (le_B8 _ _)).app (le_B8 _ _)).app (le_B8 _ _)).app (fun z hz => ?_) y h
    obtain ⟨f, -, h⟩ := List.mem_flatMap.1 hz
    exact ((le_B8 _ _).app (le_B8 _ _)) z h
end
end Go.Proofs.YtimemehaccgmmaaGreatDoor
