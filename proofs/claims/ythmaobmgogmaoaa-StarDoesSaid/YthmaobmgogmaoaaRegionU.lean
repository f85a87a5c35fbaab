/-
  A region that draws its order, with appends to numbers of the call's own, room or not; what they tell lies apart.
-/
import Derived.Test.YthmaobmgogmaoaaRegionQ
import Derived.Test.YthmaobmgogmaoaaRegionD
namespace Go.Proofs.Ythmaobmgogmaoaa
open Go.RowKit
set_option linter.unusedSimpArgs false
set_option linter.unusedVariables false

section
variable {P : Program} {e : TypeId} {k : IntKind}
/-- What an append tells: where there was room the same slice, longer; else one in a new block. -/
def SVS.app {S : List Nat} (B0 : Nat) (hS : ∀ x ∈ S, x < B0) (e : TypeId) (k : IntKind) (ad : Option Addr) (cap n : Nat) (zs : List Int) : SVS S :=
  ⟨fun v u => (n ≤ cap ∧ v = .slice ad n cap) ∨ ∃ ad' cap', cap < n ∧ v = .slice ad' n cap' ∧ Own u B0 e k ad' cap' zs,
   fun _ _ _ h hk => by
    rcases h with h | ⟨ad', cap', h1, h2, h3⟩
    · exact .inl h
    · exact .inr ⟨ad', cap', h1, h2, h3.keep hk (fun b hb hx => by have := (h3.ob_ge b hb).1; have := hS b hx; omega)⟩⟩
theorem own_blk {w : World} {B : Nat} {ad : Option Addr} {cap : Nat} {zs : List Int} (h : Own w B e k ad cap zs) (hz : 0 < cap) : ∃ g, ad = some ⟨g, 0, none⟩ ∧ B ≤ g ∧ g < w.heap.size ∧ g ∈ ob ad cap := by
  rcases h with ⟨h, -⟩ | ⟨g, cur, rfl, h1, h2, h3, h4⟩
  · omega
  · exact ⟨g, rfl, h1, lt_of_heap h2, by simp [ob, show ¬ cap = 0 by omega]⟩
/-- Two that own different blocks tell different slices. -/
theorem app_ne {S : List Nat} {B0 B n : Nat} {hS : ∀ x ∈ S, x < B0} {ad2 : Option Addr} {cap2 : Nat} {zs2 l2 : List Int} {u : Value} {w : World} (hn : 0 < n) (h2 : Own w B e k ad2 cap2 l2) (hS2 : ∀ b ∈ ob ad2 cap2, b < B0) (hz2 : zs2.length = n)
    (hu : (SVS.app (S := S) B0 hS e k ad2 cap2 n zs2).p u w) :
    (∀ g c, (g < B0 → g ∉ ob ad2 cap2) → g < B0 → u ≠ .slice (some ⟨g, 0, none⟩) n c) ∧ (∀ g c, w.heap.size ≤ g → u ≠ .slice (some ⟨g, 0, none⟩) n c) := by
  rcases hu with ⟨h1, rfl⟩ | ⟨ad', cap', h1, rfl, h3⟩
  · obtain ⟨g2, rfl, -, h5, h6⟩ := own_blk h2 (by omega)
    refine ⟨fun g c hg hlt hne => ?_, fun g c hg hne => ?_⟩
    · cases hne; exact hg hlt h6
    · cases hne; omega
  · have hc : 0 < cap' := by
      rcases h3 with ⟨-, h4⟩ | ⟨g, cur, -, -, -, h4, h5, -⟩
      · rw [h4] at hz2; simp at hz2; omega
      · omega
    obtain ⟨g2, rfl, h4, h5, h6⟩ := own_blk h3 hc
    refine ⟨fun g c hg hlt hne => ?_, fun g c hg hne => ?_⟩
    · cases hne; omega
    · cases hne; omega
theorem exec_app_or {ops : Array Oper} {o : Oper} {a : Act} {w : World} {Vi : Value → World → Prop} {R : World → World → Prop} (hw : Region.wanted o (yielded ops a.tmps) = true) (s x : Operand) (t tx : TypeId)
    (hop : o.op = Op.call { callee := Callee.builtin Builtin.append, args := #[s, x], argTypes := #[t, tx] }) (base : Nat) (by' : Nat)
    (ht : P.underlying t = some (.slice e)) (hi : (P.info? e).map (fun i => (i.zero, i.size, i.bytes)) = some (some (.int k 0), 1, by'))
    (ad : Option Addr) (cap n : Nat) (zs : List Int) (hn : n = zs.length) (news : List Int) (xv : Value) (m : Nat) (hm : m = news.length) (he : a.eval s = .slice ad n cap) (hxe : a.eval x = xv)
    (ho : Own w base e k ad cap zs) (hs : Src P 1 tx xv m (news.map (Value.int k)) w) (hb : (n + m) * by' ≤ 140737488355328) (hb2 : n + m ≤ 9223372036854775807)
    (hr : ∀ w', n + m ≤ cap → Own w' base e k ad cap (zs ++ news) → Kp (ob ad cap) w w' → Vi (.slice ad (n + m) cap) w' ∧ R w w')
    (hg : ∀ ad' cap' w', cap < n + m → Own w' w.heap.size e k ad' cap' (zs ++ news) → Kp [] w w' → Vi (.slice ad' (n + m) cap') w' ∧ R w w') : Region.wanted o (yielded ops a.tmps) = true ∧ ExecV P ops R Vi o a w := by
  by_cases hroom : n + m ≤ cap
  · exact exec_roomS hw s x t tx hop base e k by' ht hi ad cap n zs hn news xv m hm he hxe ho hs hroom (fun w' h1 h2 => hr w' hroom h1 h2)
  · refine ⟨hw, ?_⟩
    subst hn
    unfold ExecV
    rw [if_pos hw]
    obtain ⟨ad', cap', w', hrun, r1, r2⟩ := rd_grow (P := P) w t tx o.type e k by' w.heap.size ht hi ad cap zs news xv m hm ho.rd (by omega) hs hb hb2 (Nat.le_refl _)
    unfold Oper.wp
    simp only [execOp, hop, resolve, invoke, builtin, Sem.run_bind, Sem.run_pure, Result.andThen_ok, List.map_toArray, List.map_cons, List.map_nil, he, hxe, hrun]
    exact ⟨_, rfl, hg _ _ _ (by omega) r1 r2⟩
/-- What stands of it while others append. -/
def AppI (B : Nat) (e : TypeId) (k : IntKind) (ad : Option Addr) (cap n : Nat) (zs : List Int) (x : Int) (b : Bool) (w : World) : Prop := Own w B e k ad cap (if b = true ∧ n ≤ cap then zs ++ [x] else zs)
theorem app_res {S : List Nat} {B0 B n : Nat} {hS : ∀ x ∈ S, x < B0} {ad : Option Addr} {cap : Nat} {zs : List Int} {x : Int} {v : Value} {w : World} (hB : B ≤ B0) (hv : (SVS.app (S := S) B0 hS e k ad cap n (zs ++ [x])).p v w) (hi : AppI B e k ad cap n zs x true w) :
    ∃ ad' cap', v = .slice ad' n cap' ∧ Own w B e k ad' cap' (zs ++ [x]) ∧ ∀ b ∈ ob ad' cap', b ∈ ob ad cap ∨ B0 ≤ b := by
  rcases hv with ⟨h1, rfl⟩ | ⟨ad', cap', h1, rfl, h3⟩
  · refine ⟨ad, cap, rfl, ?_, fun b hb => .inl hb⟩
    unfold AppI at hi
    rwa [if_pos ⟨rfl, h1⟩] at hi
  · exact ⟨ad', cap', rfl, h3.mono hB, fun b hb => .inr (h3.ob_ge b hb).1⟩
/-- Own numbers that are different lie apart. -/
theorem ownI_apart {w : World} {base base2 : Nat} {ad ad2 : Option Addr} {cap cap2 n : Nat} {l m : List Int} (h : Own w base e k ad cap l) (h2 : Own w base2 e k ad2 cap2 m) (hne : Value.slice ad n cap ≠ .slice ad2 n cap2) : ∀ y ∈ ob ad cap, y ∉ ob ad2 cap2 := by
  intro y hy hy2
  rcases h with ⟨h, -⟩ | ⟨g, cur, rfl, -, hg, hc, -⟩
  · simp [ob, h] at hy
  rcases h2 with ⟨h, -⟩ | ⟨g2, cur2, rfl, -, hg2, hc2, -⟩
  · simp [ob, h] at hy2
  unfold ob at hy hy2
  split at hy
  · simp at hy
  split at hy2
  · simp at hy2
  simp at hy hy2
  subst hy
  subst hy2
  rw [hg] at hg2
  injection hg2 with q1
  injection q1 with q2 q3
  subst q2
  exact hne (by rw [show cap = cap2 by omega])
theorem AppI.off {B : Nat} {ad : Option Addr} {cap n : Nat} {zs : List Int} {x : Int} {w : World} (h : AppI B e k ad cap n zs x false w) : Own w B e k ad cap zs := by
  unfold AppI at h; rwa [if_neg (by simp)] at h
theorem AppI.of {B : Nat} {ad : Option Addr} {cap n : Nat} {zs : List Int} {x : Int} {w : World} (h : Own w B e k ad cap zs) : AppI B e k ad cap n zs x false w := by
  unfold AppI; rwa [if_neg (by simp)]
theorem AppI.own {B : Nat} {ad : Option Addr} {cap n : Nat} {zs : List Int} {x : Int} {b : Bool} {w : World} (h : AppI B e k ad cap n zs x b w) : ∃ l, Own w B e k ad cap l := ⟨_, h⟩
theorem AppI.keep {B : Nat} {ad : Option Addr} {cap n : Nat} {zs : List Int} {x : Int} {b : Bool} {w w' : World} (h : AppI B e k ad cap n zs x b w) {S : List Nat} (hk : Kp S w w') (hd : ∀ y ∈ ob ad cap, y ∉ S) : AppI B e k ad cap n zs x b w' := Own.keep h hk hd
theorem AppI.room {B : Nat} {ad : Option Addr} {cap n : Nat} {zs : List Int} {x : Int} {w : World} (hr : n ≤ cap) (h : Own w B e k ad cap (zs ++ [x])) : AppI B e k ad cap n zs x true w := by
  unfold AppI; rwa [if_pos ⟨rfl, hr⟩]
theorem AppI.grow {B : Nat} {ad : Option Addr} {cap n : Nat} {zs : List Int} {x : Int} {w : World} (hr : cap < n) (h : Own w B e k ad cap zs) : AppI B e k ad cap n zs x true w := by
  unfold AppI; rwa [if_neg (by omega)]
theorem app_dif {S : List Nat} {B0 B n : Nat} {hS : ∀ x ∈ S, x < B0} {ad ad2 : Option Addr} {cap cap2 : Nat} {zs zs2 l l2 : List Int} {u v : Value} {w w' : World} (hn : 0 < n)
    (hv : (n ≤ cap ∧ v = .slice ad n cap) ∨ ∃ ad' cap', cap < n ∧ v = .slice ad' n cap' ∧ Own w' w.heap.size e k ad' cap' zs) (ho : Own w B e k ad cap l) (hs : ∀ b ∈ ob ad cap, b < B0) (hdj : ∀ b ∈ ob ad cap, b ∉ ob ad2 cap2)
    (h2 : Own w B e k ad2 cap2 l2) (hS2 : ∀ b ∈ ob ad2 cap2, b < B0) (hz : zs.length = n) (hz2 : zs2.length = n) (hu : (SVS.app (S := S) B0 hS e k ad2 cap2 n zs2).p u w) : v ≠ u := by
  obtain ⟨a1, a2⟩ := app_ne hn h2 hS2 hz2 hu
  rcases hv with ⟨h1, rfl⟩ | ⟨ad', cap', h1, rfl, h3⟩
  · obtain ⟨g, rfl, -, -, h6⟩ := own_blk ho (by omega)
    exact fun he => a1 g cap (fun _ => hdj g h6) (hs g h6) he.symm
  · have hc : 0 < cap' := by
      rcases h3 with ⟨-, h4⟩ | ⟨g, cur, -, -, -, h4, h5, -⟩
      · rw [h4] at hz; simp at hz; omega
      · omega
    obtain ⟨g, rfl, h4, -, -⟩ := own_blk h3 hc
    exact fun he => a2 g cap' h4 he.symm
end
end Go.Proofs.Ythmaobmgogmaoaa
