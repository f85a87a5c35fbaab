/-
  Star-trees: records as they are told, in memory of their own.
-/
import Derived.Test.YthmaobmgogmaoaaStaX
import Derived.Test.YthmaobmgogmaoaaStbD
namespace Go.Proofs.Ythmaobmgogmaoaa
open Go.RowKit Go.Shelf
set_option linter.unusedSimpArgs false
set_option linter.unusedVariables false
set_option maxRecDepth 100000

theorem ralies : Lies racells 5 := ⟨fun _ => rfl, fun x v hv => by simp [racells] at hv; rcases hv with rfl | rfl | rfl | rfl | rfl <;> rfl, by omega⟩
theorem infoRecA : (Try.prog.info? 34).map (fun i => (i.zero, i.size, i.bytes)) = some (some (.agg #[.slice none 0 0, .int .i64 0, .slice none 0 0, .slice none 0 0, .slice none 0 0]), 5, 104) := by kernel_rfl
theorem RaOwn.keep {w w' : World} {B : Nat} {x : Ra} (h : RaOwn w B x) {S : List Nat} (k : Kp S w w') (hS : ∀ b ∈ S, b < B ∨ ∃ cs fr, w.heap[b]? = some (.cells cs 34 fr)) : RaOwn w' B x := by
  have hne : ∀ {e : TypeId} {ad : Option Addr} {cap : Nat} {l : List Int}, Own w B e .i64 ad cap l → e ≠ 34 → ∀ b, b ∈ ob ad cap → b ∉ S := fun ho hn b hb hb2 => by
    rcases hS b hb2 with h1 | ⟨cs, fr, h1⟩
    · have := (ho.ob_ge b hb).1; omega
    · exact ownI_ne ho h1 hn hb
  exact ⟨h.1.keep k (hne h.1 (by decide)), h.2.1.keep k (hne h.2.1 (by decide)), h.2.2.1.keep k (hne h.2.2.1 (by decide)), h.2.2.2.keep k (hne h.2.2.2 (by decide))⟩
theorem RaOwn.keep0 {w w' : World} {B : Nat} {x : Ra} (h : RaOwn w B x) (k : Kp [] w w') : RaOwn w' B x := h.keep k (by simp)
theorem RaOwn.mono {w : World} {B B' : Nat} {x : Ra} (h : RaOwn w B x) (hb : B' ≤ B) : RaOwn w B' x := ⟨h.1.mono hb, h.2.1.mono hb, h.2.2.1.mono hb, h.2.2.2.mono hb⟩
/-- Records that have been taken. -/
structure TakenI (B : Nat) (oa : Option Addr) (oc : Nat) (XS : List Ra) (w : World) : Prop where
  own : OwnS racells 5 w B 34 oa oc XS
  rec' : ∀ x ∈ XS, RaOwn w B x
theorem own_rows {α : Type} {f : α → List Value} {sz : Nat} {w : World} {B : Nat} {e : TypeId} {ad : Option Addr} {cap : Nat} {l : List α} (h : OwnS f sz w B e ad cap l) : ∀ b ∈ ob ad cap, ∃ cs fr, w.heap[b]? = some (.cells cs e fr) := by
  intro b hb
  rcases h with ⟨h, -⟩ | ⟨q, cur, rfl, -, h2, -⟩
  · simp [ob, h] at hb
  · unfold ob at hb
    split at hb
    · simp at hb
    · simp at hb; subst hb; exact ⟨cur, _, h2⟩
theorem TakenI.keep {B : Nat} {oa : Option Addr} {oc : Nat} {XS : List Ra} {w w' : World} (h : TakenI B oa oc XS w) {S : List Nat} (k : Kp S w w') (hS : ∀ b ∈ S, b < B) : TakenI B oa oc XS w' :=
  ⟨h.own.keep k (fun b hb hb2 => by have := (h.own.ob_ge b hb).1; have := hS b hb2; omega), fun x hx => (h.rec' x hx).keep k (fun b hb => .inl (hS b hb))⟩
theorem TakenI.snoc {B : Nat} {oa oa' : Option Addr} {oc oc' : Nat} {XS : List Ra} {x : Ra} {w w' : World} (h : TakenI B oa oc XS w) (hx : RaOwn w B x) (ho : OwnS racells 5 w' B 34 oa' oc' (XS ++ [x])) (k : Kp (ob oa oc) w w') : TakenI B oa' oc' (XS ++ [x]) w' := by
  refine ⟨ho, fun y hy => ?_⟩
  have hS : ∀ b ∈ ob oa oc, b < B ∨ ∃ cs fr, w.heap[b]? = some (.cells cs 34 fr) := fun b hb => .inr (own_rows h.own b hb)
  rcases List.mem_append.1 hy with hy | hy
  · exact (h.rec' y hy).keep k hS
  · simp at hy; subst hy; exact hx.keep k hS

theorem ownY_apart {α : Type} {f : α → List Value} {sz : Nat} {w : World} {B B' : Nat} {e e' : TypeId} {k : IntKind} {ad ad' : Option Addr} {cap cap' : Nat} {zs : List Int} {l' : List α} (h : Own w B e k ad cap zs) (h' : OwnS f sz w B' e' ad' cap' l') (hne : e ≠ e') : ∀ b, b ∈ ob ad cap → b ∉ ob ad' cap' := by
  intro b hb hb'
  obtain ⟨cs, fr, h1⟩ := own_rows h' b hb'
  exact ownI_ne h h1 hne hb

theorem Own.keepX {α : Type} {f : α → List Value} {sz : Nat} {w w' : World} {B B' : Nat} {e e' : TypeId} {k : IntKind} {ad ad' : Option Addr} {cap cap' : Nat} {zs : List Int} {l' : List α} (h : Own w B e k ad cap zs) (h' : OwnS f sz w B' e' ad' cap' l') (hne : Hid (e ≠ e')) (kp : Kp (ob ad' cap') w w') : Own w' B e k ad cap zs :=
  h.keep kp (ownY_apart h h' hne.out)

end Go.Proofs.Ythmaobmgogmaoaa
