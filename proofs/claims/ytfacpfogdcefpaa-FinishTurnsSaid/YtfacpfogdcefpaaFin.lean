/-
  Finishing: how rows stand (plain); keys in memory.
-/
import Derived.Test.YtfacpfogdcefpaaTabN
namespace Go.Proofs.Ytfacpfogdcefpaa
open Go.RowKit Go.Shelf
set_option linter.unusedSimpArgs false
set_option linter.unusedVariables false
set_option maxRecDepth 100000

/-- A key. -/
structure Ky where
  out : Int
  desc : Bool
instance : Inhabited Ky := ⟨⟨0, false⟩⟩
def kcells (k : Ky) : List Value := [.int .i64 k.out, .bool k.desc]
theorem klies : Lies kcells 2 := ⟨fun _ => rfl, fun x v hv => by simp [kcells] at hv; rcases hv with rfl | rfl <;> rfl, by omega⟩
def RdK (w : World) (ad : Option Addr) (cap : Nat) (l : List Ky) : Prop := RdS kcells 2 w ad cap l
def atK (l : List Ky) (i : Nat) : Ky := l.getD i default
theorem RdK.keep0 {w w' : World} {ad : Option Addr} {cap : Nat} {l : List Ky} (h : RdK w ad cap l) (k : Kp [] w w') : RdK w' ad cap l := RdS.keep0 h klies.len k
theorem RdK.keep {w w' : World} {ad : Option Addr} {cap : Nat} {l : List Ky} (h : RdK w ad cap l) {S : List Nat} (k : Kp S w w') (hn : ∀ x, ad = some x → l ≠ [] → x.block ∉ S) : RdK w' ad cap l := RdS.keep h klies.len k hn
theorem RdK.at' {w : World} {ad : Option Addr} {cap : Nat} {l : List Ky} (h : RdK w ad cap l) (i : Nat) (hi : i < l.length) :
    ∃ b off, ad = some ⟨b, off, none⟩ ∧ w.cell? ⟨b, off + i * 2, none⟩ = some (.int .i64 (atK l i).out) ∧ w.cell? ⟨b, off + i * 2 + 1, none⟩ = some (.bool (atK l i).desc) := by
  obtain ⟨b, off, h1, h2⟩ := h.2.2 i hi
  have e : atK l i = l[i] := by simp [atK, hi]
  rw [e]
  exact ⟨b, off, h1, h2 0 (by omega), h2 1 (by omega)⟩

theorem Kp.setRowF {S : List Nat} {a b : World} (h : Kp S a b) (g : Nat) (cs : Array Value) (hp : g ∈ S ∨ a.heap.size ≤ g) : Kp S a (b.setRow g cs) :=
  ⟨h.os, h.tape, h.output, by have := h.size; simpa [World.setRow] using this, fun k hk hn => by
    rw [setRow_other _ _ _ _ (fun e => by rcases hp with hp | hp; exact hn (e ▸ hp); omega)]; exact h.block k hk hn⟩

theorem orL_append : ∀ (l m : List Int), orL (l ++ m) = if orL l = 0 then orL m else orL l
  | [], m => by simp [orL]
  | x :: l, m => by
    rw [List.cons_append, orL, orL, orL_append l m]
    by_cases h : x = 0
    · simp [h]
    · simp [h]
theorem orL_none : ∀ l : List Int, (∀ x ∈ l, x = 0) → orL l = 0
  | [], _ => rfl
  | x :: l, h => by rw [orL, if_pos (h x (by simp))]; exact orL_none l fun y hy => h y (by simp [hy])
theorem orL_first {l : List Int} {i : Nat} (hi : i < l.length) (hz : ∀ j (hj : j < i), l[j]'(by omega) = 0) (hne : l[i] ≠ 0) : orL l = l[i] := by
  have e : l = l.take i ++ l[i] :: l.drop (i + 1) := by
    conv => lhs; rw [← List.take_append_drop i l, List.drop_eq_getElem_cons hi]
  have h0 : orL (l.take i) = 0 := orL_none _ fun x hx => by
    obtain ⟨j, hj, rfl⟩ := List.getElem_of_mem hx
    rw [List.getElem_take]
    exact hz j (by simp at hj; omega)
  have : orL l = orL (l.take i ++ l[i] :: l.drop (i + 1)) := congrArg orL e
  rw [this, orL_append, if_pos h0, orL, if_neg hne]

/-- Two rows at a place. -/
def atW (n : Nat) (p : Int) (a b : List V3) : Int := if 0 ≤ p ∧ p < (n : Nat) then cV (atV a p.toNat) (atV b p.toNat) else 0
def keyW (n : Nat) (k : Ky) (a b : List V3) : Int := if k.desc then -(atW n k.out a b) else atW n k.out a b
/-- How two rows stand. -/
def cmpW (n : Nat) (q : Int) (ks : List Ky) (a b : List V3) : Int := orL (ks.map (fun k => keyW n k a b) ++ (List.range q.toNat).map (fun i => atW n ((i : Nat) : Int) a b))

theorem cmp_key {n : Nat} {q : Int} {ks : List Ky} {a b : List V3} {i : Nat} (hi : i < ks.length) (hz : ∀ j, j < i → keyW n (atK ks j) a b = 0) (hne : keyW n (atK ks i) a b ≠ 0) : cmpW n q ks a b = keyW n (atK ks i) a b := by
  have e : ∀ j (hj : j < ks.length), atK ks j = ks[j] := fun j hj => by simp [atK, hj]
  have h1 : orL (ks.map (fun k => keyW n k a b)) = keyW n (atK ks i) a b := by
    rw [orL_first (i := i) (by simpa using hi) (fun j hj => by
      rw [List.getElem_map, ← e j (by omega)]; exact hz j hj) (by rw [List.getElem_map, ← e i hi]; exact hne), List.getElem_map, ← e i hi]
  rw [cmpW, orL_append, h1, if_neg hne]
theorem cmp_keys {n : Nat} {q : Int} {ks : List Ky} {a b : List V3} (hz : ∀ j, j < ks.length → keyW n (atK ks j) a b = 0) : cmpW n q ks a b = orL ((List.range q.toNat).map (fun i => atW n ((i : Nat) : Int) a b)) := by
  have h1 : orL (ks.map (fun k => keyW n k a b)) = 0 := orL_none _ fun x hx => by
    obtain ⟨k, hk, rfl⟩ := List.mem_map.1 hx
    obtain ⟨j, hj, rfl⟩ := List.getElem_of_mem hk
    have := hz j hj
    rwa [show atK ks j = ks[j] by simp [atK, hj]] at this
  rw [cmpW, orL_append, if_pos h1]
theorem cmp_by {n : Nat} {q : Int} {ks : List Ky} {a b : List V3} {i : Nat} (hk : ∀ j, j < ks.length → keyW n (atK ks j) a b = 0) (hi : (i : Int) < q) (hz : ∀ j : Nat, j < i → atW n (j : Int) a b = 0) (hne : atW n (i : Int) a b ≠ 0) : cmpW n q ks a b = atW n (i : Int) a b := by
  rw [cmp_keys hk, orL_first (i := i) (by simp; omega) (fun j hj => by simpa using hz j hj) (by simpa using hne)]
  simp
theorem cmp_none {n : Nat} {q : Int} {ks : List Ky} {a b : List V3} {i : Nat} (hk : ∀ j, j < ks.length → keyW n (atK ks j) a b = 0) (hi : q ≤ (i : Int) ∨ n ≤ i) (hz : ∀ j : Nat, j < i → atW n (j : Int) a b = 0) : cmpW n q ks a b = 0 := by
  rw [cmp_keys hk]
  refine orL_none _ fun x hx => ?_
  obtain ⟨j, hj, rfl⟩ := List.mem_map.1 hx
  rw [List.mem_range] at hj
  by_cases hji : j < i
  · exact hz j hji
  · rw [atW, if_neg (by omega)]

theorem atW_anti (n : Nat) (p : Int) (a b : List V3) : atW n p b a = - atW n p a b ∧ -1 ≤ atW n p a b ∧ atW n p a b ≤ 1 := by
  unfold atW
  split
  · have h1 := cV_anti (atV a p.toNat) (atV b p.toNat)
    have h2 := cV_rng (atV a p.toNat) (atV b p.toNat)
    exact ⟨h1, h2⟩
  · omega
theorem keyW_anti (n : Nat) (k : Ky) (a b : List V3) : keyW n k b a = - keyW n k a b ∧ -1 ≤ keyW n k a b ∧ keyW n k a b ≤ 1 := by
  have := atW_anti n k.out a b
  unfold keyW
  split <;> omega
theorem atW_T3 (n : Nat) (p : Int) (a b c : List V3) : T3 (atW n p a b) (atW n p b c) (atW n p a c) := by
  unfold atW
  split
  · exact cV_T3 _ _ _
  · unfold T3; omega
theorem keyW_T3 (n : Nat) (k : Ky) (a b c : List V3) : T3 (keyW n k a b) (keyW n k b c) (keyW n k a c) := by
  have h1 := atW_T3 n k.out a b c
  have h2 := atW_T3 n k.out c b a
  have a1 := (atW_anti n k.out a b).1
  have a2 := (atW_anti n k.out b c).1
  have a3 := (atW_anti n k.out a c).1
  unfold keyW
  unfold T3 at h1 h2 ⊢
  split <;> omega
theorem orL_T3 : ∀ fs : List (List V3 → List V3 → Int), (∀ f ∈ fs, ∀ a b c, T3 (f a b) (f b c) (f a c)) → ∀ a b c, T3 (orL (fs.map fun f => f a b)) (orL (fs.map fun f => f b c)) (orL (fs.map fun f => f a c))
  | [], _, a, b, c => by unfold T3; simp [orL]
  | f :: fs, h, a, b, c => by
    have h1 := h f (by simp) a b c
    have h2 := orL_T3 fs (fun g hg => h g (by simp [hg])) a b c
    simp only [List.map_cons, orL]
    unfold T3 at h1 h2 ⊢
    repeat' split
    all_goals omega
theorem orL_anti : ∀ fs : List (List V3 → List V3 → Int), (∀ f ∈ fs, ∀ a b, f b a = - f a b ∧ -1 ≤ f a b ∧ f a b ≤ 1) → ∀ a b, orL (fs.map fun f => f b a) = - orL (fs.map fun f => f a b) ∧ -1 ≤ orL (fs.map fun f => f a b) ∧ orL (fs.map fun f => f a b) ≤ 1
  | [], _, a, b => by simp [orL]
  | f :: fs, h, a, b => by
    have h1 := h f (by simp) a b
    have h2 := orL_anti fs (fun g hg => h g (by simp [hg])) a b
    simp only [List.map_cons, orL]
    repeat' split
    all_goals omega
def cmpF (n : Nat) (q : Int) (ks : List Ky) : List (List V3 → List V3 → Int) := ks.map (fun k => keyW n k) ++ (List.range q.toNat).map (fun i => atW n ((i : Nat) : Int))
theorem cmpW_F (n : Nat) (q : Int) (ks : List Ky) (a b : List V3) : cmpW n q ks a b = orL ((cmpF n q ks).map fun f => f a b) := by
  simp [cmpW, cmpF, List.map_append, List.map_map, Function.comp_def]
theorem cmpF_mem {n : Nat} {q : Int} {ks : List Ky} {f : List V3 → List V3 → Int} (h : f ∈ cmpF n q ks) : (∃ k, f = keyW n k) ∨ ∃ p, f = atW n p := by
  rcases List.mem_append.1 h with h | h
  · obtain ⟨k, -, rfl⟩ := List.mem_map.1 h; exact .inl ⟨k, rfl⟩
  · obtain ⟨i, -, rfl⟩ := List.mem_map.1 h; exact .inr ⟨_, rfl⟩
theorem cmpW_anti (n : Nat) (q : Int) (ks : List Ky) (a b : List V3) : cmpW n q ks b a = - cmpW n q ks a b ∧ -1 ≤ cmpW n q ks a b ∧ cmpW n q ks a b ≤ 1 := by
  rw [cmpW_F, cmpW_F]
  refine orL_anti _ (fun f hf => ?_) a b
  rcases cmpF_mem hf with ⟨k, rfl⟩ | ⟨p, rfl⟩
  · exact keyW_anti n k
  · exact atW_anti n p
theorem cmpW_T3 (n : Nat) (q : Int) (ks : List Ky) (a b c : List V3) : T3 (cmpW n q ks a b) (cmpW n q ks b c) (cmpW n q ks a c) := by
  rw [cmpW_F, cmpW_F, cmpW_F]
  refine orL_T3 _ (fun f hf => ?_) a b c
  rcases cmpF_mem hf with ⟨k, rfl⟩ | ⟨p, rfl⟩
  · exact keyW_T3 n k
  · exact atW_T3 n p
theorem cmpW_self (n : Nat) (q : Int) (ks : List Ky) (a : List V3) : cmpW n q ks a a = 0 := by have := (cmpW_anti n q ks a a).1; omega
theorem cmpW_swo (n : Nat) (q : Int) (ks : List Ky) : Swo (fun x y : List V3 => decide (cmpW n q ks x y < 0)) where
  asym x y h := by
    have h1 := (cmpW_anti n q ks x y).1
    simp only [decide_eq_true_eq, decide_eq_false_iff_not] at h ⊢
    omega
  neg x y z h1 h2 := by
    have a1 := (cmpW_anti n q ks x y).1
    have a2 := (cmpW_anti n q ks y z).1
    have a3 := (cmpW_anti n q ks x z).1
    have t := cmpW_T3 n q ks x y z
    simp only [decide_eq_false_iff_not] at h1 h2 ⊢
    have := (t.1 (by omega) (by omega)).1
    omega
end Go.Proofs.Ytfacpfogdcefpaa
